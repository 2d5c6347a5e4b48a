import Derived.Test.YtopfcpnilblieaaGreatDoorConv
import Derived.Deep.RegionHeld3
import Derived.Deep.QuietTactic
import Derived.BigQuiet
namespace Go.Proofs.YtopfcpnilblieaaGreatDoor
open Go.RowKit

/-- Symmetric and reflexive. -/
def alphaAt (ds : List Nat) (i : Nat) : Bool := (conv ds).getD i 0 == ds.getD i 0 && (ds.getD i 0).testBit i
def alphaB (ds : List Nat) : Bool := (List.range ds.length).all (alphaAt ds)
theorem alphaB_true {ds : List Nat} (h : ∀ j, j < ds.length → alphaAt ds j = true) : alphaB ds = true := by
  unfold alphaB
  rw [List.all_eq_true]
  exact fun j hj => h j (List.mem_range.1 hj)
theorem alphaB_false {ds : List Nat} {i : Nat} (hi : i < ds.length) (h : alphaAt ds i = false) : alphaB ds = false := by
  unfold alphaB
  rw [List.all_eq_false]
  exact ⟨i, List.mem_range.2 hi, by rw [h]; simp⟩
/-- Is it an alphabet? -/
def isAlpha (n : Int) (xs : List Int) : Bool := inR 0 8 n && (decide ((xs.length : Int) = n) && (isRel xs && alphaB (xs.map Int.toNat)))

theorem nums_toNat {xs : List Int} (h : ∀ x ∈ xs, 0 ≤ x) : nums xs = nats (xs.map Int.toNat) := by
  simp only [nums, nats, List.map_map]
  apply List.map_congr_left
  intro x hx
  have := h x hx
  show Value.int .i64 x = .int .i64 ((x.toNat : Nat) : Int)
  rw [Int.toNat_of_nonneg this]

theorem conv_length (r : List Nat) : (conv r).length = r.length := by simp [conv]
theorem conv_lt {r : List Nat} (h : r.length ≤ 24) : ∀ m ∈ conv r, m < 2 ^ 63 := by
  intro m hm
  simp only [conv, List.mem_map] at hm
  obtain ⟨i, _, rfl⟩ := hm
  exact Nat.lt_of_lt_of_le (mask_lt _ _) (Nat.pow_le_pow_right (by decide) (by omega))

/-- What holds of every world of the first test: the boxed alphabet's two cells; what lay, lies. -/
theorem alpha_s {n : Int} {v : Value} {w w' : World} (h : Below (w.heap.size + 1) (w.alloc (.cells #[.int .i64 n, v] 26)) w') :
    w'.cell? ⟨w.heap.size, 0, none⟩ = some (.int .i64 n) ∧ w'.cell? ⟨w.heap.size, 1, none⟩ = some v ∧ Below (w.heap.size + 1) (w.alloc (.cells #[.int .i64 n, v] 26)) w' :=
  ⟨(h.cell (p := ⟨w.heap.size, 0, none⟩) (by simp)).trans (by simp [go_sem]), (h.cell (p := ⟨w.heap.size, 1, none⟩) (by simp)).trans (by simp [go_sem]), h⟩

theorem isRel_nats {ds : List Nat} (h : ds.length ≤ 24) (hds : ∀ m ∈ ds, m < 2 ^ ds.length) : isRel (ds.map fun (m : Nat) => (m : Int)) = true := by
  simp only [isRel, List.length_map, Bool.and_eq_true, decide_eq_true_eq, List.all_eq_true]
  refine ⟨h, fun x hx => ?_⟩
  obtain ⟨m, hm, rfl⟩ := List.mem_map.1 hx
  have : m < p2 ds.length := hds m hm
  exact inR_iff.2 ⟨by omega, by omega⟩

theorem IsAlphabet_yes (ds : List Nat) (v : Value) (w : World) (hT : Tab w) (h8 : ds.length ≤ 8) (hds : ∀ m ∈ ds, m < 2 ^ ds.length) (hv : Rd w w.heap.size v (nats ds)) :
    Calls Tryz.prog 29 #[.agg #[.int .i64 ds.length, v]] w fun e w' => e = .returned (.bool (alphaB ds)) ∧ Below w.heap.size w w' := by
  have hb1 : Below w.heap.size w (w.alloc (.cells #[.int .i64 ds.length, v] 26)) := (Below.refl _ w).alloc (Nat.le_refl _) _
  have hv1 := (hv.below hb1).mono hb1.size
  have hT1 := hT.below hb1
  have hi : inR 0 8 (ds.length : Int) = true := inR_iff.2 ⟨by omega, by omega⟩
  have cr := fun W => inRange_c ds.length 0 8 W
  rw [hi] at cr
  have cl := fun W (hb : Below (w.heap.size + 1) (w.alloc (.cells #[.int .i64 ds.length, v] 26)) W) => length_c v (nats ds) _ W ((hv1.mono (by simp)).below hb)
  rw [nats_length] at cl
  have hrel := isRel_nats (by omega) hds
  have ci : ∀ W, (W.cell? ⟨w.heap.size, 0, none⟩ = some (.int .i64 ds.length) ∧ W.cell? ⟨w.heap.size, 1, none⟩ = some v ∧ Below (w.heap.size + 1) (w.alloc (.cells #[.int .i64 ds.length, v] 26)) W) → Calls Tryz.prog 59 #[v] W fun e w' => e = .returned (.bool true) ∧
      (w'.cell? ⟨w.heap.size, 0, none⟩ = some (.int .i64 ds.length) ∧ w'.cell? ⟨w.heap.size, 1, none⟩ = some v ∧ Below (w.heap.size + 1) (w.alloc (.cells #[.int .i64 ds.length, v] 26)) w') := fun W hS => by
    have h := hv1
    rw [nats_nums] at h
    have := (IsRelation_c v _ W (((h.mono (by simp)).below hS.2.2).mono (by have := hS.2.2.size; simpa using this)))
    rw [hrel] at this
    exact this.mono fun e w' ⟨he, hb⟩ => ⟨he, alpha_s (hS.2.2.trans (hb.mono (by have := hS.2.2.size; simpa using this)))⟩
  have hS0 := alpha_s (n := ds.length) (v := v) (below_drewN (Below.refl (w.heap.size + 1) (w.alloc (.cells #[.int .i64 ds.length, v] 26))) 1)
  have cv := fun W (hb : Below (w.heap.size + 1) (w.alloc (.cells #[.int .i64 ds.length, v] 26)) W) => converse_c ds v W (hT1.below (hb.mono (by simp))) (by omega) hds (((hv1.mono (by simp)).below hb).mono (by have := hb.size; simpa using this))
  have hc63 := Lib.hid (conv_lt (r := ds) (by omega))
  have hcl := conv_length ds
  obtain ⟨A, c, rfl, hl, _, HC⟩ := hv.cells
  rw [nats_length] at *
  clear hi hrel hv hv1 hds
  go_enter Tryz.func29, Tryz.ntmps29
  go_wp2
  go_region_held3 (fun w' => w'.cell? ⟨w.heap.size, 0, none⟩ = some (.int .i64 ds.length) ∧ w'.cell? ⟨w.heap.size, 1, none⟩ = some (.slice A ds.length c) ∧ Below (w.heap.size + 1) (w.alloc (.cells #[.int .i64 ds.length, .slice A ds.length c] 26)) w') (first | exact hS0 | assumption)
    (first
      | (go_at_call 57; refine (cr _).mono ?_; rintro e w' ⟨rfl, rfl⟩)
      | (go_at_call 58; refine (cl _ (And.right (And.right (by assumption)))).mono ?_; rintro e w' ⟨rfl, rfl⟩)
      | (go_at_call 59; refine (ci _ (by assumption)).mono ?_; rintro e w' ⟨rfl, hb⟩))
  obtain ⟨k0, k1, hB⟩ := hb
  clear ci hS0
  go_wp2_with (go_at_call 60; refine (cv _ hB).mono ?_; rintro e w1 h1; obtain ⟨A1, c1, rfl, g1, G1, HB1⟩ := h1.read; clear h1)
  rw [nats_length, hcl] at g1 ⊢
  have hsz : w.heap.size + 1 ≤ w'.heap.size := by simpa using hB.size
  have k1' := (HB1.cell (p := ⟨w.heap.size, 1, none⟩) hsz).trans k1
  have HBw : Below w.heap.size w w1 := (hb1.trans (hB.mono (by omega))).trans (HB1.mono (by omega))
  have HC1 := HC.below HBw
  have HX := Lib.hid hcl
  clear k0 k1 HC hcl cv cl cr hT hT1
  go_loop [3, 4, 27] (fun _ _ s27 => ∃ i : Nat, i ≤ ds.length ∧ s27 = .int .i64 i ∧ Hid (∀ j, j < i → alphaAt ds j = true)) (fun _ _ s27 => ds.length - (intOf s27).toNat)
  case atStart => exact ⟨0, Nat.zero_le _, rfl, fun j hj => absurd hj (Nat.not_lt_zero _)⟩
  case round =>
    obtain ⟨i, hi, rfl, HN⟩ := hrel
    by_cases hlt : i < ds.length
    · have hlc : i < (conv ds).length := by rw [HX.out]; exact hlt
      obtain ⟨b, o, rfl, _, _, hc1⟩ := HC1.at_ i _ (nats_get hlt)
      obtain ⟨b1, o1, rfl, _, _, hc2⟩ := G1.at_ i _ (nats_get hlc)
      have hA : alphaAt ds i = ((conv ds)[i] == ds[i] && ds[i].testBit i) := by simp [alphaAt, List.getD_eq_getElem?_getD, hlt, hlc]
      have hc63' := hc63.out _ (List.getElem_mem hlc)
      generalize (conv ds)[i] = a at hc2 hA hc63'
      generalize ds[i] = d at hc1 hA
      have HA := Lib.hid hA
      clear hA
      by_cases had : a = d
      · subst had
        have ht : ((a : Int) != (a : Int)) = false := by simp
        have ch := has_c a i hc63' w1
        cases hb : a.testBit i with
        | true =>
          rw [hb] at ch
          have HB' := Lib.hid hb
          clear hb
          go_wp2_with (go_at_call 61; refine ch.mono ?_; rintro e w' ⟨rfl, rfl⟩)
          go_round
          case rel =>
            refine ⟨i + 1, by omega, by go_num, fun j hj => ?_⟩
            by_cases e : j = i
            · rw [e, HA.out, HB'.out]; simp
            · exact HN.out j (by omega)
          case measure => simp [intOf]; omega
        | false =>
          rw [hb] at ch
          have HB' := Lib.hid hb
          clear hb
          go_wp2_with (go_at_call 61; refine ch.mono ?_; rintro e w' ⟨rfl, rfl⟩)
          go_ret
          exact ⟨ret_b (alphaB_false hlt (by rw [HA.out, HB'.out]; simp)).symm, HBw⟩
      · have ht : ((a : Int) != (d : Int)) = true := by simp; omega
        have hf : alphaAt ds i = false := by rw [HA.out]; simp [had]
        have HF := Lib.hid hf
        clear had hf
        go_wp2
        go_ret
        exact ⟨ret_b (alphaB_false hlt HF.out).symm, HBw⟩
    · have hie : i = ds.length := by omega
      subst hie
      go_wp2
      go_ret
      exact ⟨ret_b (alphaB_true HN.out).symm, HBw⟩

theorem IsAlphabet_c (n : Int) (v : Value) (xs : List Int) (w : World) (hT : Tab w) (hv : Rd w w.heap.size v (nums xs)) :
    Calls Tryz.prog 29 #[.agg #[.int .i64 n, v]] w fun e w' => e = .returned (.bool (isAlpha n xs)) ∧ Below w.heap.size w w' := by
  have hb1 : Below w.heap.size w (w.alloc (.cells #[.int .i64 n, v] 26)) := (Below.refl _ w).alloc (Nat.le_refl _) _
  have hv1 := (hv.below hb1).mono hb1.size
  have cr := fun W => inRange_c n 0 8 W
  have cl := fun W (hb : Below (w.heap.size + 1) (w.alloc (.cells #[.int .i64 n, v] 26)) W) => length_c v (nums xs) _ W ((hv1.mono (by simp)).below hb)
  rw [nums_length] at cl
  have hq : ∀ q, Below (w.heap.size + 1) (w.alloc (.cells #[.int .i64 n, v] 26)) ((w.alloc (.cells #[.int .i64 n, v] 26)).drewN q) := fun q => below_drewN (Below.refl _ _) q
  by_cases h1 : inR 0 8 n = true
  · by_cases h2 : (xs.length : Int) = n
    · have h2' : ((xs.length : Int) != n) = false := by simp [h2]
      have ci : ∀ W, (W.cell? ⟨w.heap.size, 0, none⟩ = some (.int .i64 n) ∧ W.cell? ⟨w.heap.size, 1, none⟩ = some v ∧ Below (w.heap.size + 1) (w.alloc (.cells #[.int .i64 n, v] 26)) W) → Calls Tryz.prog 59 #[v] W fun e w' => e = .returned (.bool (isRel xs)) ∧
          (w'.cell? ⟨w.heap.size, 0, none⟩ = some (.int .i64 n) ∧ w'.cell? ⟨w.heap.size, 1, none⟩ = some v ∧ Below (w.heap.size + 1) (w.alloc (.cells #[.int .i64 n, v] 26)) w') := fun W hS =>
        (IsRelation_c v xs W (((hv1.mono (by simp)).below hS.2.2).mono (by have := hS.2.2.size; simpa using this))).mono fun e w' ⟨he, hb⟩ => ⟨he, alpha_s (hS.2.2.trans (hb.mono (by have := hS.2.2.size; simpa using this)))⟩
      have hS0 := alpha_s (n := n) (v := v) (hq 1)
      by_cases h3 : isRel xs = true
      · have hr := h3
        simp only [isRel, Bool.and_eq_true, decide_eq_true_eq, List.all_eq_true] at hr
        have hx0 : ∀ x ∈ xs, 0 ≤ x := fun x hx => (inR_iff.1 (hr.2 x hx)).1
        have hn8 := (inR_iff.1 h1).2
        have e : isAlpha n xs = alphaB (xs.map Int.toNat) := by simp [isAlpha, h1, h2, h3]
        have hds : ∀ m ∈ xs.map Int.toNat, m < 2 ^ (xs.map Int.toNat).length := by
          intro m hm
          obtain ⟨x, hx, rfl⟩ := List.mem_map.1 hm
          have h4 := (inR_iff.1 (hr.2 x hx)).2
          have h5 := p2_pos xs.length
          have h6 := hx0 x hx
          rw [List.length_map]
          show x.toNat < p2 xs.length
          omega
        rw [nums_toNat hx0] at hv
        rw [e]
        have := IsAlphabet_yes (xs.map Int.toNat) v w hT (by rw [List.length_map]; omega) hds hv
        rw [List.length_map, h2] at this
        exact this
      · have e : isAlpha n xs = false := by simp [isAlpha, h3]
        have E := Lib.hid e
        have H2 := Lib.hid h2
        have h3' : isRel xs = false := by simpa using h3
        obtain ⟨A, c, rfl, hl, _, HC⟩ := hv.cells
        clear e h2 h3 hv hv1 HC
        go_enter Tryz.func29, Tryz.ntmps29
        go_wp2
        go_region_held3 (fun w' => w'.cell? ⟨w.heap.size, 0, none⟩ = some (.int .i64 n) ∧ w'.cell? ⟨w.heap.size, 1, none⟩ = some (.slice A (nums xs).length c) ∧ Below (w.heap.size + 1) (w.alloc (.cells #[.int .i64 n, .slice A (nums xs).length c] 26)) w') (first | exact hS0 | assumption)
          (first
            | (go_at_call 57; refine (cr _).mono ?_; rintro e w' ⟨rfl, rfl⟩)
            | (go_at_call 58; refine (cl _ (And.right (And.right (by assumption)))).mono ?_; rintro e w' ⟨rfl, rfl⟩)
            | (go_at_call 59; refine (ci _ (by assumption)).mono ?_; rintro e w' ⟨rfl, hb⟩))
        go_wp2
        go_ret
        exact ⟨ret_b E.out.symm, hb1.trans (hb.2.2.mono (by omega))⟩
    · have e : isAlpha n xs = false := by simp [isAlpha, h2]
      have E := Lib.hid e
      have h2' : ((xs.length : Int) != n) = true := by simp [h2]
      obtain ⟨A, c, rfl, hl, _, HC⟩ := hv.cells
      clear e h2 hv hv1 HC
      go_enter Tryz.func29, Tryz.ntmps29
      go_wp2
      go_quiet ((first
        | (go_at_call 57; exact Calls.quiet_of_same (eqw (cr _)))
        | (go_at_call 58; exact Calls.quiet_of_same (eqw (cl _ (hq _))))))
      go_wp2
      go_ret
      exact ⟨ret_b E.out.symm, below_drewN hb1 _⟩
  · have e : isAlpha n xs = false := by simp [isAlpha, h1]
    have E := Lib.hid e
    have h1' : inR 0 8 n = false := by simpa using h1
    clear e h1 hv hv1
    go_enter Tryz.func29, Tryz.ntmps29
    go_wp2
    go_quiet ((go_at_call 57; exact Calls.quiet_of_same (eqw (cr _))))
    go_wp2
    go_ret
    exact ⟨ret_b E.out.symm, below_drewN hb1 _⟩
end Go.Proofs.YtopfcpnilblieaaGreatDoor
