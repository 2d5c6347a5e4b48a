/-
  DERIVED. GIVEN WITH THE SEED: THE CARDS: each row of YtibhlleeghbnaaaDoorRows.lean that lists a variable, with what it lists TIED to the program's text (the seventh form; the later family's looks); each row that meets fmt, with fmt's text TOLD by the authors' own Lean function (tested against real Go, not proved from fmt's source: count such statements apart). THE CARD IS WHAT COUNTS. Prove the row's statement (the work); the ties are given (YtibhlleeghbnaaaDoorTie.lean); close each card by the builder's one call (the guide's Derived/Test/ToyasCard.lean, 'card_holds'). Laid BY PROGRAM, IN A SANDBOX (cutbox-door.mjs). By AI agents, Wed Nov 11 2026. No macro, syntax, notation, axiom, sorry.
-/
import Derived.Test.YtibhlleeghbnaaaDoorRows
import GoSem.ClaimSeven
namespace Go.Proofs.YtibhlleeghbnaaaDoor
namespace Rows

/-- THE TIED CARD OF 'laws.FnExactCompareTraces'. -/
def fnExactCompareTracesCard : Claim7 := { stood := { row := fnExactCompareTracesRow, standIns := [], harness := (true, "98a911dede9cc330f1bb47c11cf261368fc70e6bef5d00906150a3f0e6a57ae7"), looks := false }, kinds := [], alts := [], laidByText := true, laidKinds := [.data], laidTests := true, laidLooks := .later }
def FnExactCompareTracesCardSaid : Prop := Claim7.holds Tryd.pinned (.plain (OpenSpec.ofChange fnExactCompareTracesSpec)) fnExactCompareTracesCard

/-- THE TIED CARD OF 'laws.FnExactStuckStates'. -/
def fnExactStuckStatesCard : Claim7 := { stood := { row := fnExactStuckStatesRow, standIns := [], harness := (true, "98a911dede9cc330f1bb47c11cf261368fc70e6bef5d00906150a3f0e6a57ae7"), looks := false }, kinds := [], alts := [], laidByText := true, laidKinds := [.data], laidTests := true, laidLooks := .later }
def FnExactStuckStatesCardSaid : Prop := Claim7.holds Tryd.pinned (.plain (OpenSpec.ofChange fnExactStuckStatesSpec)) fnExactStuckStatesCard

/-- THE SECOND FORM's CARD OF 'laws.FnExactCompareTraces'. -/
def fnExactCompareTracesUptoCard : Claim7 := { stood := { row := fnExactCompareTracesUptoRow, standIns := [], harness := (true, "98a911dede9cc330f1bb47c11cf261368fc70e6bef5d00906150a3f0e6a57ae7"), looks := false }, kinds := [], alts := [], laidByText := true, laidKinds := [.data], laidTests := true, laidLooks := .later }
def FnExactCompareTracesUptoCardSaid : Prop := Claim7.holds Tryd.pinned (.plain (OpenSpec.upto fnExactCompareTracesSpec)) fnExactCompareTracesUptoCard

/-- THE SECOND FORM's CARD OF 'laws.FnExactStuckStates'. -/
def fnExactStuckStatesUptoCard : Claim7 := { stood := { row := fnExactStuckStatesUptoRow, standIns := [], harness := (true, "98a911dede9cc330f1bb47c11cf261368fc70e6bef5d00906150a3f0e6a57ae7"), looks := false }, kinds := [], alts := [], laidByText := true, laidKinds := [.data], laidTests := true, laidLooks := .later }
def FnExactStuckStatesUptoCardSaid : Prop := Claim7.holds Tryd.pinned (.plain (OpenSpec.upto fnExactStuckStatesSpec)) fnExactStuckStatesUptoCard
end Rows
end Go.Proofs.YtibhlleeghbnaaaDoor
