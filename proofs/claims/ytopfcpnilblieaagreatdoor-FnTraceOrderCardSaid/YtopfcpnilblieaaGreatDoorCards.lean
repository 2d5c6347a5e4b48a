/-
  DERIVED. GIVEN WITH THE SEED: THE CARDS: each row of YtopfcpnilblieaaGreatDoorRows.lean that lists a variable, with what it lists TIED to the program's text (the seventh form; the later family's looks); each row that meets fmt, with fmt's text TOLD by the authors' own Lean function (tested against real Go, not proved from fmt's source: count such statements apart). THE CARD IS WHAT COUNTS. Prove the row's statement (the work); the ties are given (YtopfcpnilblieaaGreatDoorTie.lean); close each card by the builder's one call (the guide's Derived/Test/ToyasCard.lean, 'card_holds'). Laid BY PROGRAM, IN A SANDBOX (cutbox-door.mjs). By AI agents, Wed Nov 11 2026. No macro, syntax, notation, axiom, sorry.
-/
import Derived.Test.YtopfcpnilblieaaGreatDoorRows
import GoSem.ClaimSeven
namespace Go.Proofs.YtopfcpnilblieaaGreatDoor
namespace Rows

/-- THE TIED CARD OF 'laws.FnTraceOrder'. -/
def fnTraceOrderCard : Claim7 := { stood := { row := fnTraceOrderRow, standIns := [], harness := (true, "e7a4d159630e45412c407571b8053328ea345ba23b7c8c5cd2effe4cd766cb9f"), looks := false }, kinds := [], alts := [], laidByText := true, laidKinds := [.data], laidTests := true, laidLooks := .later }
def FnTraceOrderCardSaid : Prop := Claim7.holds Tryz.pinned (.plain (OpenSpec.ofChange fnTraceOrderSpec)) fnTraceOrderCard

/-- THE SECOND FORM's CARD OF 'laws.FnTraceOrder'. -/
def fnTraceOrderUptoCard : Claim7 := { stood := { row := fnTraceOrderUptoRow, standIns := [], harness := (true, "e7a4d159630e45412c407571b8053328ea345ba23b7c8c5cd2effe4cd766cb9f"), looks := false }, kinds := [], alts := [], laidByText := true, laidKinds := [.data], laidTests := true, laidLooks := .later }
def FnTraceOrderUptoCardSaid : Prop := Claim7.holds Tryz.pinned (.plain (OpenSpec.upto fnTraceOrderSpec)) fnTraceOrderUptoCard
end Rows
end Go.Proofs.YtopfcpnilblieaaGreatDoor
