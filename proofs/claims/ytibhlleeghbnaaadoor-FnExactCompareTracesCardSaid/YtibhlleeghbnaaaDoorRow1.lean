/- laws.FnExactCompareTraces, walked -/
import Derived.Test.YtibhlleeghbnaaaDoorLaw2
import Derived.Test.YtibhlleeghbnaaaDoorLawFn
import Derived.Deep.RegionWith
namespace Go.Proofs.YtibhlleeghbnaaaDoor
open Go.RowKit

theorem szI_neg {left : Int} {n : Nat} (h : left < n) : szI left n = -1 := if_pos h
theorem szI_pos {left : Int} {n : Nat} (h : ¬ left < n) : szI left n = left - n := if_neg h

set_option maxRecDepth 100000 in
set_option maxHeartbeats 4000000 in
theorem law1_c (n : Int) (vx vu vv : Value) (ds us vs : List Int) (w : World) (hT : Tab w) (hx : Came w vx ds) (hu : Came w vu us) (hv : Came w vv vs) :
    Calls Tryd.prog 3 #[.agg #[.int .i64 n, vx], vu, vv] w fun e w' => e = .returned (.bool true) ∧ Below w.heap.size w w' := by
  obtain ⟨Ax, cpx, rfl, mx, _⟩ := id hx.ex
  obtain ⟨Au, cpu, rfl, mu, _⟩ := id hu.ex
  obtain ⟨Av, cpv, rfl, mv, _⟩ := id hv.ex
  have hb1 : Below w.heap.size w (w.alloc (.cells #[.int .i64 n, .slice Ax ds.length cpx] 24)) := (Below.refl _ w).alloc (Nat.le_refl _) _
  by_cases lu : (1048576 : Int) < us.length
  · clear hT hx hu hv
    go_enter Tryd.func3, Tryd.ntmps3
    go_wp2
    go_ret
    exact ⟨rfl, hb1⟩
  by_cases lv : (1048576 : Int) < vs.length
  · clear hT hx hu hv
    go_enter Tryd.func3, Tryd.ntmps3
    go_wp2
    go_ret
    exact ⟨rfl, hb1⟩
  have hz1 : (w.alloc (.cells #[.int .i64 n, .slice Ax ds.length cpx] 24)).heap.size = w.heap.size + 1 := by simp
  have cz := szAl_c n Ax ds.length cpx 1048576 (w.alloc (.cells #[.int .i64 n, .slice Ax ds.length cpx] 24)) (by omega) (by omega) mx
  by_cases lx : (1048576 : Int) < ds.length
  · rw [szI_neg lx] at cz
    clear hT hx hu hv
    go_enter Tryd.func3, Tryd.ntmps3
    go_wp2_with fail
    refine cz.mono ?_
    rintro e w' ⟨rfl, hb⟩
    go_wp2
    go_ret
    exact ⟨rfl, hb1.trans (hb.mono hb1.size)⟩
  have hsz : ¬ (1048576 : Int) - ds.length < 0 := by omega
  rw [szI_pos lx] at cz
  have HK : Hid (∀ W, Below (w.heap.size + 1) (w.alloc (.cells #[.int .i64 n, .slice Ax ds.length cpx] 24)) W → W.cell? ⟨w.heap.size, 0, none⟩ = some (.int .i64 n) ∧ W.cell? ⟨w.heap.size, 1, none⟩ = some (.slice Ax ds.length cpx)) := fun W hW => ⟨(hW.cell (p := ⟨w.heap.size, 0, none⟩) (by simp)).trans (by simp [go_sem]), (hW.cell (p := ⟨w.heap.size, 1, none⟩) (by simp)).trans (by simp [go_sem])⟩
  have HB1 := Lib.hid hb1
  have TA := fun W (hW : Below w.heap.size w W) => toAl_c n (.slice Ax ds.length cpx) ds W (by unfold Len; omega) (hx.below hW)
  have TU := fun W (hW : Below w.heap.size w W) => toS_c (.slice Au us.length cpu) us W (by unfold Len; omega) (hu.below hW)
  have TV := fun W (hW : Below w.heap.size w W) => toS_c (.slice Av vs.length cpv) vs W (by unfold Len; omega) (hv.below hW)
  have HT := Lib.hid hT
  have HSZ : ∀ W, Below (w.heap.size + 1) (w.alloc (.cells #[.int .i64 n, .slice Ax ds.length cpx] 24)) W → w.heap.size + 1 ≤ W.heap.size := fun W hW => by have := hW.size; rw [hz1] at this; exact this
  have HSZ := Lib.hid HSZ
  clear hT hx hu hv hb1
  go_enter Tryd.func3, Tryd.ntmps3
  go_wp2_with fail
  refine cz.mono ?_
  rintro e W1 ⟨rfl, X1⟩
  rw [hz1] at X1
  clear hz1
  obtain ⟨k0, k1⟩ := HK.out _ X1
  have B1 := HB1.out.trans (X1.mono (by omega))
  go_wp2_with fail
  -- the reference's answer
  refine (TA W1 B1).mono ?_
  rintro e W2 ⟨a1, rfl, O1, b2⟩
  have X2 := X1.trans (b2.mono (HSZ.out _ X1))
  have B2 := B1.trans (b2.mono B1.size)
  obtain ⟨Aa, ca, rfl, _, _, _⟩ := O1.cells
  go_wp2_with fail
  refine (TU W2 B2).mono ?_
  rintro e W3 ⟨u1, rfl, O2, b3⟩
  have X3 := X2.trans (b3.mono (HSZ.out _ X2))
  have B3 := B2.trans (b3.mono B2.size)
  obtain ⟨Au1, cu1, rfl, _, _, _⟩ := O2.cells
  go_wp2_with fail
  refine (TV W3 B3).mono ?_
  rintro e W4 ⟨v1, rfl, O3, b4⟩
  have X4 := X3.trans (b4.mono (HSZ.out _ X3))
  have B4 := B3.trans (b4.mono B3.size)
  obtain ⟨Av1, cv1, rfl, _, _, _⟩ := O3.cells
  have cs := sCompareTraces_c n _ _ _ ds us vs W4 ((O1.rd.step b3).step b4) (O2.rd.step b4) O3.rd
  clear O1 O2 O3 b2 b3 b4
  go_wp2_with fail
  refine cs.mono ?_
  rintro e W5 ⟨rfl, b5⟩
  have X5 := X4.trans (b5.mono (HSZ.out _ X4))
  have B5 := B4.trans (b5.mono B4.size)
  obtain ⟨k0', k1'⟩ := HK.out _ X5
  clear cs k0 k1 b5
  -- the arguments of the program's call
  go_wp2_with fail
  refine (TA W5 B5).mono ?_
  rintro e W6 ⟨a2, rfl, O1, b6⟩
  have X6 := X5.trans (b6.mono (HSZ.out _ X5))
  have B6 := B5.trans (b6.mono B5.size)
  obtain ⟨Aa2, ca2, rfl, _, _, _⟩ := O1.cells
  have b7 : Below W6.heap.size W6 (W6.alloc (.cells #[.int .i64 n, .slice Aa2 (nums ds).length ca2] 28)) := (Below.refl _ W6).alloc (Nat.le_refl _) _
  have m0 : (W6.alloc (.cells #[.int .i64 n, .slice Aa2 (nums ds).length ca2] 28)).cell? ⟨W6.heap.size, 0, none⟩ = some (.int .i64 n) := by simp [go_sem]
  have m1 : (W6.alloc (.cells #[.int .i64 n, .slice Aa2 (nums ds).length ca2] 28)).cell? ⟨W6.heap.size, 1, none⟩ = some (.slice Aa2 (nums ds).length ca2) := by simp [go_sem]
  have s7 : (W6.alloc (.cells #[.int .i64 n, .slice Aa2 (nums ds).length ca2] 28)).heap.size = W6.heap.size + 1 := by simp
  have B7 := B6.trans (b7.mono B6.size)
  have X7 := X6.trans (b7.mono (HSZ.out _ X6))
  have R1 := O1.rd.step b7
  go_wp2_with fail
  generalize W6.alloc (.cells #[.int .i64 n, .slice Aa2 (nums ds).length ca2] 28) = W7 at m0 m1 s7 B7 X7 R1 ⊢
  have G : Hid (W6.heap.size < W7.heap.size) := by rw [Hid, s7]; omega
  clear O1 b6 b7 s7
  refine (TU W7 B7).mono ?_
  rintro e W8 ⟨u2, rfl, O2, b8⟩
  have X8 := X7.trans (b8.mono (HSZ.out _ X7))
  have B8 := B7.trans (b8.mono B7.size)
  obtain ⟨Au2, cu2, rfl, _, _, _⟩ := O2.cells
  go_wp2_with fail
  refine (TV W8 B8).mono ?_
  rintro e W9 ⟨v2, rfl, O3, b9⟩
  have X9 := X8.trans (b9.mono (HSZ.out _ X8))
  have B9 := B8.trans (b9.mono B8.size)
  obtain ⟨Av2, cv2, rfl, _, _, _⟩ := O3.cells
  have b79 := b8.trans (b9.mono b8.size)
  have R1' := R1.step b79
  have R2 := O2.rd.step b9
  have R3 := O3.rd
  have HM : Hid (∀ W, Below W7.heap.size W7 W → W.cell? ⟨W6.heap.size, 0, none⟩ = some (.int .i64 n) ∧ W.cell? ⟨W6.heap.size, 1, none⟩ = some (.slice Aa2 (nums ds).length ca2)) := fun W hW => ⟨(hW.cell (p := ⟨W6.heap.size, 0, none⟩) G.out).trans m0, (hW.cell (p := ⟨W6.heap.size, 1, none⟩) G.out).trans m1⟩
  obtain ⟨m0', m1'⟩ := HM.out _ b79
  clear m0 m1 R1 O2 O3 b8 b9
  have cc := CompareTraces_c n _ _ _ ds us vs W9 (HT.out.below B9) R1' R2 R3
  rw [cmpRes_eq] at cc
  go_wp2_with fail
  refine cc.mono ?_
  rintro e W10 ⟨rfl, b10⟩
  have X10 := X9.trans (b10.mono (HSZ.out _ X9))
  have B10 := B9.trans (b10.mono B9.size)
  have b7x := b79.trans (b10.mono b79.size)
  have R1a := R1'.step b10
  have R2a := R2.step b10
  have R3a := R3.step b10
  obtain ⟨n0, n1⟩ := HM.out _ b7x
  obtain ⟨i0, i1⟩ := HK.out _ X10
  generalize cmpResS n ds us vs = r1
  generalize checkB n ds [us, vs] = r2
  clear cc m0' m1' R1' R2 R3 b10 k0' k1'
  have h1 : ((r1 : Int) != r1) = false := by simp
  have h2 : ((r2 : Int) != r2) = false := by simp
  go_wp2_with fail
  have eqa := fun (W : World) (v1 v2 : Value) (q1 : Rd W W.heap.size v1 (nums ds)) (q2 : Rd W W.heap.size v2 (nums ds)) => eqAl_c n v1 v2 ds W q1 q2
  have B10r : Below W10.heap.size W10 W10 := Below.refl _ _
  have TA2 : ∀ W, Below W10.heap.size W10 W → Calls Tryd.prog 7 #[.agg #[.int .i64 n, .slice Ax ds.length cpx]] W fun e w' => ∃ u, e = .returned (.agg #[.int .i64 n, u]) ∧ Rd w' w'.heap.size u (nums ds) ∧ Below W10.heap.size W10 w' := fun W hW =>
    (TA W (B10.trans (hW.mono B10.size))).mono fun e w' ⟨u, he, ho, hb⟩ => ⟨u, he, ho.rd, hW.trans (hb.mono hW.size)⟩
  have HR1 := Lib.hid R1a
  have HM2 : Hid (∀ W, Below W10.heap.size W10 W → W.cell? ⟨W6.heap.size, 0, none⟩ = some (.int .i64 n) ∧ W.cell? ⟨W6.heap.size, 1, none⟩ = some (.slice Aa2 (nums ds).length ca2)) := fun W hW => HM.out W (b7x.trans (hW.mono b7x.size))
  clear R1a
  go_region_with (first
    | (go_at_call 7; with_reducible refine (TA2 _ ?_).mono ?_; first | exact B10r | exact B10r.drew | exact B10r.drew.drew | exact B10r.drew.drew.drew | exact below_drewN B10r _
       rintro e W11 ⟨a3, rfl, R11, b11⟩; obtain ⟨n0', n1'⟩ := HM2.out _ b11; obtain ⟨Aa3, ca3, rfl, _, _, _⟩ := R11.cells)
    | (go_at_call 10; refine (eqa _ _ _ ?_ ?_).mono ?_; exact HR1.out.step b11; exact R11; rintro e W12 ⟨rfl, b12⟩))
  all_goals
    have c12 : Below W10.heap.size W10 W12 := by
      first
        | exact b11.trans (b12.mono b11.size)
        | exact b11.drew.trans (b12.mono b11.size)
        | exact b11.drew.drew.trans (b12.mono b11.size)
    have B12 := B10.trans (c12.mono B10.size)
    have R2b := R2a.step c12
    have R3b := R3a.step c12
    clear R11 b12 TA2 eqa b11 n0' n1' HM2 HR1 n0 n1 i0 i1
    go_wp2_with fail
    refine (TU W12 B12).mono ?_
    rintro e W13 ⟨u3, rfl, O13, b13⟩
    have B13 := B12.trans (b13.mono B12.size)
    obtain ⟨Au3, cu3, rfl, _, _, _⟩ := O13.cells
    have eq2 := eqS_c _ _ us W13 _ (R2b.step b13) O13.rd
    have R3c := R3b.step b13
    clear R2a R2b R3a R3b O13 b13
    go_wp2_with fail
    refine eq2.mono ?_
    rintro e w' ⟨rfl, q, rfl⟩
    go_wp2_with fail
    refine (TV _ (below_drewN B13 q)).mono ?_
    rintro e W14 ⟨v3, rfl, O14, b14⟩
    have B14 := (below_drewN B13 q).trans (b14.mono B13.size)
    obtain ⟨Av3, cv3, rfl, _, _, _⟩ := O14.cells
    have eq3 := eqS_c _ _ vs W14 _ ((rd_drewN R3c q).step b14) O14.rd
    clear R3c O14 b14
    go_wp2_with fail
    refine eq3.mono ?_
    rintro e w' ⟨rfl, q2, rfl⟩
    go_wp2
    go_ret
    exact ⟨rfl, below_drewN B14 _⟩
end Go.Proofs.YtibhlleeghbnaaaDoor
