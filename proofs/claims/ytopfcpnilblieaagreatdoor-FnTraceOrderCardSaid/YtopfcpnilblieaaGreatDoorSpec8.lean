/- the reference's CompareTraces -/
import Derived.Test.YtopfcpnilblieaaGreatDoorSpec7
namespace Go.Proofs.YtopfcpnilblieaaGreatDoor
open Go.RowKit

def cmpResS (n : Int) (ds us vs : List Int) : Int := if checkB n ds [us, vs] = 0 then cmpS (toN ds) (toN us) (toN vs) else 0

set_option maxHeartbeats 800000 in
theorem sCompareTraces_c (n : Int) (vx vu vv : Value) (ds us vs : List Int) (w : World) (hx : Rd w w.heap.size vx (nums ds)) (hru : Rd w w.heap.size vu (nums us)) (hrv : Rd w w.heap.size vv (nums vs)) :
    Calls Tryz.prog 7 #[.agg #[.int .i64 n, vx], vu, vv] w fun e w' => e = .returned (.tuple #[.int .i64 (cmpResS n ds us vs), .int .i64 (checkB n ds [us, vs])]) ∧ Below w.heap.size w w' := by
  have hb1 : Below w.heap.size w (w.alloc (.cells #[.int .i64 n, vx] 26)) := (Below.refl _ w).alloc (Nat.le_refl _) _
  have q0 : (w.alloc (.cells #[.int .i64 n, vx] 26)).cell? ⟨w.heap.size, 0, none⟩ = some (.int .i64 n) := by simp [go_sem]
  have q1 : (w.alloc (.cells #[.int .i64 n, vx] 26)).cell? ⟨w.heap.size, 1, none⟩ = some vx := by simp [go_sem]
  have hz1 : (w.alloc (.cells #[.int .i64 n, vx] 26)).heap.size = w.heap.size + 1 := by simp
  have HK : Hid (∀ W, Below (w.heap.size + 1) (w.alloc (.cells #[.int .i64 n, vx] 26)) W → W.cell? ⟨w.heap.size, 0, none⟩ = some (.int .i64 n) ∧ W.cell? ⟨w.heap.size, 1, none⟩ = some vx) := fun W hW => ⟨(hW.cell (p := ⟨w.heap.size, 0, none⟩) (by simp)).trans q0, (hW.cell (p := ⟨w.heap.size, 1, none⟩) (by simp)).trans q1⟩
  have ci := sIs_c n vx ds _ ((hx.below hb1).mono hb1.size)
  rw [hz1] at ci
  have HB1 := Lib.hid hb1
  have cu := fun W (hW : Below w.heap.size w W) => sIsW_c n vx vu ds us W ((hx.below hW).mono hW.size) ((hru.below hW).mono hW.size)
  have cv := fun W (hW : Below w.heap.size w W) => sIsW_c n vx vv ds vs W ((hx.below hW).mono hW.size) ((hrv.below hW).mono hW.size)
  have EC : Hid (checkB n ds [us, vs] = if isAlpha n ds = true then (if (isWordB n us && isWordB n vs) = true then 0 else 2) else 1) := by rw [Hid, checkB]; simp [List.all_cons]
  have EZ : Hid (checkB n ds [us, vs] ≠ 0 → cmpResS n ds us vs = 0) := fun h => if_neg h
  cases ha : isAlpha n ds with
  | false =>
    rw [ha] at ci EC
    clear ha hx hru hrv cu cv q0 q1 hz1 hb1
    go_enter Tryz.func7, Tryz.ntmps7
    go_wp2_with fail
    refine ci.mono ?_
    rintro e W1 ⟨rfl, hb⟩
    go_wp2
    go_ret2
    have e1 : checkB n ds [us, vs] = 1 := by rw [EC.out]; simp
    exact ⟨ret_ii (EZ.out (by rw [e1]; decide)).symm e1.symm, HB1.out.trans (hb.mono (by omega))⟩
  | true =>
    rw [ha] at ci EC cu cv
    simp only [Bool.true_and] at cu cv
    cases hu : isWordB n us with
    | false =>
      rw [hu] at EC cu
      clear ha hu hx hru hrv cv q0 q1 hz1 hb1
      go_enter Tryz.func7, Tryz.ntmps7
      go_wp2_with fail
      refine ci.mono ?_
      rintro e W1 ⟨rfl, hb⟩
      obtain ⟨k0, k1⟩ := HK.out _ hb
      have B1 := HB1.out.trans (hb.mono (by omega))
      go_wp2_with fail
      refine (cu W1 B1).mono ?_
      rintro e W2 ⟨rfl, hb2⟩
      go_wp2
      go_ret2
      have e1 : checkB n ds [us, vs] = 2 := by rw [EC.out]; simp
      exact ⟨ret_ii (EZ.out (by rw [e1]; decide)).symm e1.symm, B1.trans (hb2.mono B1.size)⟩
    | true =>
      rw [hu] at EC cu
      cases hv : isWordB n vs with
      | false =>
        rw [hv] at EC cv
        clear ha hu hv hx hru hrv q0 q1 hz1 hb1
        go_enter Tryz.func7, Tryz.ntmps7
        go_wp2_with fail
        refine ci.mono ?_
        rintro e W1 ⟨rfl, hb⟩
        obtain ⟨k0, k1⟩ := HK.out _ hb
        have B1 := HB1.out.trans (hb.mono (by omega))
        go_wp2_with fail
        refine (cu W1 B1).mono ?_
        rintro e W2 ⟨rfl, hb2⟩
        have B2 := B1.trans (hb2.mono B1.size)
        have hs1 : w.heap.size + 1 ≤ W1.heap.size := by simpa using hb.size
        obtain ⟨j0, j1⟩ := HK.out _ (hb.trans (hb2.mono hs1))
        go_wp2_with fail
        refine (cv W2 B2).mono ?_
        rintro e W3 ⟨rfl, hb3⟩
        go_wp2
        go_ret2
        have e1 : checkB n ds [us, vs] = 2 := by rw [EC.out]; simp
        exact ⟨ret_ii (EZ.out (by rw [e1]; decide)).symm e1.symm, B2.trans (hb3.mono B2.size)⟩
      | true =>
        rw [hv] at EC cv
        have hA := isAlpha_iff.1 ha
        obtain ⟨u1, u2, u3⟩ := word_toN hA hu
        obtain ⟨v1, v2, v3⟩ := word_toN hA hv
        have e1 : checkB n ds [us, vs] = 0 := by rw [EC.out]; simp
        have ER : Hid (cmpResS n ds us vs = cmpS (toN ds) (toN us) (toN vs)) := if_pos e1
        have E1 := Lib.hid e1
        rw [u1] at hru
        rw [v1] at hrv
        rw [nums_toN hA.pos] at hx
        have ct := fun W (hW : Below w.heap.size w W) => sCompare_c n vx vu vv (toN ds) (toN us) (toN vs) W (fun m hm => Nat.lt_of_lt_of_le (hA.lt m hm) (Nat.pow_le_pow_right (by decide) (by have := hA.le; omega))) (by rw [toN_length]; exact hA.le) u2 v2 (by omega) (by omega) ((hx.below hW).mono hW.size) ((hru.below hW).mono hW.size) ((hrv.below hW).mono hW.size)
        clear ha hu hv hx hru hrv q0 q1 hz1 hb1 e1 hA u1 u2 u3 v1 v2 v3
        go_enter Tryz.func7, Tryz.ntmps7
        go_wp2_with fail
        refine ci.mono ?_
        rintro e W1 ⟨rfl, hb⟩
        obtain ⟨k0, k1⟩ := HK.out _ hb
        have B1 := HB1.out.trans (hb.mono (by omega))
        go_wp2_with fail
        refine (cu W1 B1).mono ?_
        rintro e W2 ⟨rfl, hb2⟩
        have B2 := B1.trans (hb2.mono B1.size)
        have hs1 : w.heap.size + 1 ≤ W1.heap.size := by simpa using hb.size
        have X2 := hb.trans (hb2.mono hs1)
        obtain ⟨j0, j1⟩ := HK.out _ X2
        go_wp2_with fail
        refine (cv W2 B2).mono ?_
        rintro e W3 ⟨rfl, hb3⟩
        have B3 := B2.trans (hb3.mono B2.size)
        have hs2 : w.heap.size + 1 ≤ W2.heap.size := by simpa using X2.size
        obtain ⟨i0, i1⟩ := HK.out _ (X2.trans (hb3.mono hs2))
        go_wp2_with fail
        refine (ct W3 B3).mono ?_
        rintro e W4 ⟨rfl, hb4⟩
        go_wp2
        go_ret2
        exact ⟨ret_ii ER.out.symm E1.out.symm, B3.trans (hb4.mono B3.size)⟩
end Go.Proofs.YtopfcpnilblieaaGreatDoor
