/- the reference's alphabets, words and the order of words -/
import Derived.Test.YtopfcpnilblieaaGreatDoorSpec1
import Derived.Test.YtopfcpnilblieaaGreatDoorCmpTop
namespace Go.Proofs.YtopfcpnilblieaaGreatDoor
open Go.RowKit

def rowS (ds : List Nat) (i : Nat) : Bool := (ds.getD i 0).testBit i && (List.range ds.length).all fun j => (ds.getD i 0).testBit j == (ds.getD j 0).testBit i
theorem rowS_eq {ds : List Nat} (hds : ∀ m ∈ ds, m < 2 ^ ds.length) {i : Nat} (hi : i < ds.length) : alphaAt ds i = rowS ds i := by
  have hc : (conv ds).getD i 0 = mask (fun k => (ds.getD k 0).testBit i) ds.length := by simp [conv, List.getD_eq_getElem?_getD, hi]
  have hl : ds.getD i 0 < 2 ^ ds.length := by
    simp only [List.getD_eq_getElem?_getD, List.getElem?_eq_getElem hi, Option.getD_some]; exact hds _ (List.getElem_mem hi)
  unfold alphaAt rowS
  rw [hc, Bool.and_comm]
  congr 1
  rw [Bool.eq_iff_iff, beq_iff_eq, List.all_eq_true]
  constructor
  · intro h j hj
    have hj' := List.mem_range.1 hj
    rw [beq_iff_eq, ← h, mask_bit]
    simp [hj']
  · intro h
    apply Nat.eq_of_testBit_eq
    intro j
    rw [mask_bit]
    by_cases hj : j < ds.length
    · have := h j (List.mem_range.2 hj)
      rw [beq_iff_eq] at this
      simp only [hj, decide_true, Bool.true_and]
      exact this.symm
    · rw [Nat.testBit_lt_two_pow (Nat.lt_of_lt_of_le hl (Nat.pow_le_pow_right (by decide) (by omega)))]
      simp [hj]

theorem rowS_false1 {ds : List Nat} {i : Nat} (h : (ds.getD i 0).testBit i = false) : rowS ds i = false := by unfold rowS; rw [h]; rfl
theorem rowS_false2 {ds : List Nat} {i j : Nat} (hj : j < ds.length) (h : ((ds.getD i 0).testBit j == (ds.getD j 0).testBit i) = false) : rowS ds i = false := by
  unfold rowS
  rw [Bool.and_eq_false_iff]
  right
  rw [List.all_eq_false]
  exact ⟨j, List.mem_range.2 hj, by rw [h]; simp⟩
theorem rowS_true {ds : List Nat} {i : Nat} (h : (ds.getD i 0).testBit i = true) (h2 : ∀ j, j < ds.length → ((ds.getD i 0).testBit j == (ds.getD j 0).testBit i) = true) : rowS ds i = true := by
  unfold rowS
  rw [h, Bool.true_and, List.all_eq_true]
  exact fun j hj => h2 j (List.mem_range.1 hj)
theorem getD_at {ds : List Nat} {i : Nat} (h : i < ds.length) : ds.getD i 0 = ds[i] := by simp [List.getD_eq_getElem?_getD, h]

set_option maxRecDepth 100000 in
set_option maxHeartbeats 800000 in
theorem sIs_yes (ds : List Nat) (v : Value) (w : World) (h8 : ds.length ≤ 8) (hds : ∀ m ∈ ds, m < 2 ^ ds.length) (hv : Rd w w.heap.size v (nats ds)) :
    Calls Tryz.prog 20 #[.agg #[.int .i64 ds.length, v]] w fun e w' => e = .returned (.bool (alphaB ds)) ∧ Below w.heap.size w w' := by
  have hb1 : Below w.heap.size w (w.alloc (.cells #[.int .i64 ds.length, v] 26)) := (Below.refl _ w).alloc (Nat.le_refl _) _
  have hv1 := (hv.below hb1).mono hb1.size
  have hi : inR 0 8 (ds.length : Int) = true := inR_iff.2 ⟨by omega, by omega⟩
  have cr := fun W => sIn_c ds.length 0 8 W
  rw [hi] at cr
  have hm : (ds.map fun (m : Nat) => (m : Int)).all (inR 0 ((p2 ds.length : Int) - 1)) = true := by
    rw [List.all_eq_true]
    intro x hx
    obtain ⟨m, hm, rfl⟩ := List.mem_map.1 hx
    have : m < p2 ds.length := hds m hm
    exact inR_iff.2 ⟨by omega, by omega⟩
  have cm := sMasks_c ds.length v (ds.map fun (m : Nat) => (m : Int)) _ (by omega) (by rw [← nats_nums]; exact hv1)
  rw [hm] at cm
  have q0 : (w.alloc (.cells #[.int .i64 ds.length, v] 26)).cell? ⟨w.heap.size, 0, none⟩ = some (.int .i64 ds.length) := by simp [go_sem]
  have q1 : (w.alloc (.cells #[.int .i64 ds.length, v] 26)).cell? ⟨w.heap.size, 1, none⟩ = some v := by simp [go_sem]
  have H63 : Hid (∀ m ∈ ds, m < 2 ^ 63) := fun m hm => Nat.lt_of_lt_of_le (hds m hm) (Nat.pow_le_pow_right (by decide) (by omega))
  have HF : Hid (∀ i, i < ds.length → rowS ds i = false → alphaB ds = false) := fun i hi h => alphaB_false hi (by rw [rowS_eq hds hi]; exact h)
  have HT : Hid ((∀ i, i < ds.length → rowS ds i = true) → alphaB ds = true) := fun h => alphaB_true fun i hi => by rw [rowS_eq hds hi]; exact h i hi
  obtain ⟨A, c, rfl, h1, h2, HC⟩ := hv.cells
  rw [nats_length] at *
  clear hi hm hv hv1 hds
  have HB1 := Lib.hid hb1
  clear hb1
  go_enter Tryz.func20, Tryz.ntmps20
  go_wp2_with (first
    | (go_at_call 44; refine (cr _).mono ?_; rintro e w' ⟨rfl, rfl⟩)
    | (go_at_call 45; refine cm.mono ?_; rintro e wm ⟨rfl, hb⟩; have k0 := (hb.cell (p := ⟨w.heap.size, 0, none⟩) (by simp)).trans q0; have k1 := (hb.cell (p := ⟨w.heap.size, 1, none⟩) (by simp)).trans q1))
  have HBm : Below w.heap.size w wm := HB1.out.trans (hb.mono HB1.out.size)
  have HCm := HC.below HBm
  clear q0 q1 cm HC hb
  go_loopw [3, 4] (fun s3 _ wr => ∃ i q : Nat, i ≤ ds.length ∧ s3 = .int .i64 i ∧ wr = wm.drewN q ∧ Hid (∀ j, j < i → rowS ds j = true)) (fun s3 _ _ => ds.length - (intOf s3).toNat)
  case atStart => exact ⟨0, 0, Nat.zero_le _, rfl, rfl, fun j hj => absurd hj (Nat.not_lt_zero _)⟩
  case round =>
    obtain ⟨i, q, hk, rfl, rfl, HN⟩ := hrel
    have g0 := cell_drewN (q := q) k0
    have g1 := cell_drewN (q := q) k1
    have HCq : Cells (wm.drewN q) 0 w.heap.size A (nats ds) := ⟨HCm.at_⟩
    have HBq := below_drewN HBm q
    clear HBm HCm
    obtain ⟨wo, hwo⟩ : ∃ wo : World, wo = wm.drewN q := ⟨_, rfl⟩
    rw [← hwo] at g0 g1 HCq HBq ⊢
    have HWO := Lib.hid hwo
    clear hwo
    by_cases hlt : i < ds.length
    · obtain ⟨b, o, rfl, _, _, hc⟩ := HCq.at_ i _ (nats_get hlt)
      have hd63 := H63.out _ (List.getElem_mem hlt)
      have hgd := getD_at hlt
      have cb := fun (j : Nat) (hj : j < 64) W => sBit_c ds[i] j hd63 hj W
      generalize ds[i] = d at hc hd63 hgd cb
      have HG := Lib.hid hgd
      clear hgd
      have cii := fun W => cb i (by omega) W
      cases hbit : d.testBit i with
      | false =>
        rw [hbit] at cii
        have HX := Lib.hid hbit
        clear hbit
        go_wp2_with (go_at_call 46; refine (cii _).mono ?_; rintro e w' ⟨rfl, rfl⟩)
        go_ret
        exact ⟨ret_b (HF.out i hlt (rowS_false1 (by rw [HG.out]; exact HX.out))).symm, HBq⟩
      | true =>
        rw [hbit] at cii
        have HX := Lib.hid hbit
        clear hbit
        go_wp2_with (go_at_call 46; refine (cii _).mono ?_; rintro e w' ⟨rfl, rfl⟩)
        go_loopw [4] (fun s4 wx => ∃ j p : Nat, j ≤ ds.length ∧ s4 = .int .i64 j ∧ wx = wo.drewN p ∧ Hid (∀ k, k < j → (d.testBit k == (ds.getD k 0).testBit i) = true)) (fun s4 _ => ds.length - (intOf s4).toNat)
        case atStart => exact ⟨0, 0, Nat.zero_le _, rfl, rfl, fun j hj => absurd hj (Nat.not_lt_zero _)⟩
        case round =>
          obtain ⟨j, p, hj, rfl, rfl, HM⟩ := hrel
          by_cases hlj : j < ds.length
          · obtain ⟨b2, o2, hbo, _, _, hc2⟩ := HCq.at_ j _ (nats_get hlj)
            obtain ⟨rfl, rfl⟩ : b = b2 ∧ o = o2 := by simpa using hbo
            clear hbo
            have hd63' := H63.out _ (List.getElem_mem hlj)
            have hgd' := getD_at hlj
            have cji := fun W => sBit_c ds[j] i hd63' (by omega) W
            generalize ds[j] = d' at hc2 hd63' hgd' cji
            have HG' := Lib.hid hgd'
            clear hgd'
            have cij := fun W => cb j (by omega) W
            generalize hx : d.testBit j = x at cij
            generalize hy : d'.testBit i = y at cji
            have HE : Hid ((d.testBit j == (ds.getD j 0).testBit i) = (x == y)) := by rw [Hid, HG'.out, hx, hy]
            clear hx hy
            by_cases hxy : x = y
            · subst hxy
              go_wp2
              go_quiet ((go_at_call 46; first | (with_reducible exact quietL (cij _)) | (with_reducible exact quietL (cji _))))
              go_wp2
              go_roundw
              case rel =>
                refine ⟨j + 1, _, by omega, by go_num, rfl, fun k hk => ?_⟩
                by_cases e : k = j
                · rw [e, HE.out]; simp
                · exact HM.out k (by omega)
              case measure => simp [intOf]; omega
            · have HXY := Lib.hid hxy
              clear hxy
              obtain ⟨rfl, rfl⟩ | ⟨rfl, rfl⟩ : (x = true ∧ y = false) ∨ (x = false ∧ y = true) := by
                have := HXY.out
                cases x <;> cases y <;> simp_all
              all_goals
                go_wp2
                go_quiet ((go_at_call 46; first | (with_reducible exact quietL (cij _)) | (with_reducible exact quietL (cji _))))
                go_wp2
                go_ret
                exact ⟨ret_b (HF.out i hlt (rowS_false2 hlj (by rw [HG.out, HE.out]; rfl))).symm, below_drewN (below_drewN HBq _) _⟩
          · have hje : j = ds.length := by omega
            subst hje
            go_wp2
            go_roundw
            case rel =>
              refine ⟨i + 1, q + p, by omega, by go_num, by rw [HWO.out]; simp [World.drewN_drewN], fun k hk => ?_⟩
              by_cases e : k = i
              · rw [e]; exact rowS_true (by rw [HG.out]; exact HX.out) (fun k' hk' => by rw [HG.out]; exact HM.out k' hk')
              · exact HN.out k (by omega)
            case measure => simp [intOf]; omega
    · have hke : i = ds.length := by omega
      subst hke
      go_wp2
      go_ret
      exact ⟨ret_b (HT.out HN.out).symm, HBq⟩
end Go.Proofs.YtopfcpnilblieaaGreatDoor
