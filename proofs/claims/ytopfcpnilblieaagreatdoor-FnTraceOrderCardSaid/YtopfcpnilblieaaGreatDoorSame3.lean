/- impl.AreSameTrace -/
import Derived.Test.YtopfcpnilblieaaGreatDoorSame2
import Derived.Test.YtopfcpnilblieaaGreatDoorCmpTop
namespace Go.Proofs.YtopfcpnilblieaaGreatDoor
open Go.RowKit

def sameRes (n : Int) (ds us vs : List Int) : Bool := if checkB n ds [us, vs] = 0 then decide (NF (toN ds) (toN us) = NF (toN ds) (toN vs)) else false
set_option maxHeartbeats 800000 in
theorem AreSameTrace_c (n : Int) (vx vu vv : Value) (ds us vs : List Int) (w : World) (hT : Tab w) (hx : Rd w w.heap.size vx (nums ds)) (hru : Rd w w.heap.size vu (nums us)) (hrv : Rd w w.heap.size vv (nums vs)) :
    Calls Tryz.prog 8 #[.agg #[.int .i64 n, vx], vu, vv] w fun e w' => e = .returned (.tuple #[.bool (sameRes n ds us vs), .int .i64 (checkB n ds [us, vs])]) ∧ Below w.heap.size w w' := by
  obtain ⟨Au, cu, rfl, hu1, hu2, HCu⟩ := hru.cells
  obtain ⟨Av, cv, rfl, hv1, hv2, HCv⟩ := hrv.cells
  simp only [nums_length] at *
  clear HCu HCv
  have hB1 : Below w.heap.size w ((w.alloc (.cells #[.int .i64 n, vx] 26)).alloc (.cells #[.slice Au us.length cu, .slice Av vs.length cv] 24)) := ((Below.refl _ w).alloc (Nat.le_refl _) _).alloc (by simp) _
  have cw := checkWords_c n vx (.slice (some ⟨w.heap.size + 1, 0, none⟩) 2 2) ds [us, vs] _ (hT.below hB1) ((hx.below hB1).mono hB1.size) (rds_two (b := w.heap.size + 1) (by simp) (by simp [go_sem]) (by simp [go_sem]) ((hru.below hB1).mono hB1.size) ((hrv.below hB1).mono hB1.size))
  generalize hc : checkB n ds [us, vs] = code at cw
  by_cases hz : code = 0
  · subst hz
    obtain ⟨ha, hw⟩ := checkB_zero.1 hc
    have hA := isAlpha_iff.1 ha
    obtain ⟨u1, u2, u3⟩ := word_toN hA (hw us (by simp))
    obtain ⟨v1, v2, v3⟩ := word_toN hA (hw vs (by simp))
    have E : Hid (sameRes n ds us vs = decide (NF (toN ds) (toN us) = NF (toN ds) (toN vs))) := if_pos hc
    rw [u1] at hru
    rw [v1] at hrv
    rw [nums_toN hA.pos] at hx
    have ct := fun W (hW : Below w.heap.size w W) => same_c vx (.slice Au us.length cu) (.slice Av vs.length cv) (toN ds) (toN us) (toN vs) W (hT.below hW) (fun m hm => Nat.lt_of_lt_of_le (hA.lt m hm) (Nat.pow_le_pow_right (by decide) (by have := hA.le; omega))) (by rw [toN_length]; have := hA.le; omega) u2 v2 (by omega) (by omega) ((hx.below hW).mono hW.size) ((hru.below hW).mono hW.size) ((hrv.below hW).mono hW.size)
    clear hc ha hw hA u1 v1 u2 v2 u3 v3 hT hx hru hrv
    have q0 : ((w.alloc (.cells #[.int .i64 n, vx] 26)).alloc (.cells #[.slice Au us.length cu, .slice Av vs.length cv] 24)).cell? ⟨w.heap.size, 0, none⟩ = some (.int .i64 n) := by simp [go_sem]
    have q1 : ((w.alloc (.cells #[.int .i64 n, vx] 26)).alloc (.cells #[.slice Au us.length cu, .slice Av vs.length cv] 24)).cell? ⟨w.heap.size, 1, none⟩ = some vx := by simp [go_sem]
    have HB := Lib.hid hB1
    clear hB1
    go_enter Tryz.func8, Tryz.ntmps8
    go_wp2_with (first
      | (go_at_call 17; refine cw.mono ?_; rintro e w' ⟨rfl, hb⟩; have k0 := (hb.cell (p := ⟨w.heap.size, 0, none⟩) (by simp; omega)).trans q0; have k1 := (hb.cell (p := ⟨w.heap.size, 1, none⟩) (by simp; omega)).trans q1))
    have B1 := HB.out.trans (hb.mono HB.out.size)
    refine (ties_c n vx _).mono ?_
    rintro e W1 ⟨rfl, hb1⟩
    have B2 := B1.trans (hb1.mono B1.size)
    go_wp2_with fail
    refine (ct W1 B2).mono ?_
    rintro e W2 ⟨rfl, hb2⟩
    go_wp2
    go_ret2
    exact ⟨ret_bi E.out.symm rfl, B2.trans (hb2.mono B2.size)⟩
  · have hcz : (code != 0) = true := by simp [hz]
    have E : Hid (sameRes n ds us vs = false) := if_neg (by rw [hc]; exact hz)
    have HB := Lib.hid hB1
    clear hz hx hru hrv hT hc
    go_enter Tryz.func8, Tryz.ntmps8
    go_wp2_with (go_at_call 17; refine cw.mono ?_; rintro e w' ⟨rfl, hb⟩)
    go_ret2
    exact ⟨ret_bi E.out.symm rfl, HB.out.trans (hb.mono HB.out.size)⟩
end Go.Proofs.YtopfcpnilblieaaGreatDoor
