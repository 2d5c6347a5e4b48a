/- the plain law of the order of traces: letters and lists -/
import Derived.Test.YtopfcpnilblieaaGreatDoorSpec7
namespace Go.Proofs.YtopfcpnilblieaaGreatDoor
open Go.RowKit

theorem lexBy_ord : ∀ xs ys : List Int, lexBy cmpI xs ys = ordI xs ys
  | [], [] => by simp [lexBy, ordI, lessI]
  | [], _ :: _ => by simp [lexBy, ordI, lessI]
  | _ :: _, [] => by simp [lexBy, ordI, lessI]
  | x :: xs, y :: ys => by
    have ih := lexBy_ord xs ys
    show (if cmpI x y = 0 then lexBy cmpI xs ys else cmpI x y) = _
    rcases Int.lt_trichotomy x y with h | h | h
    · have h1 : ¬ x = y := by omega
      have h2 : ¬ y = x := by omega
      rw [cmpI_lt h]
      simp [ordI, lessI, h1, h]
    · subst h
      rw [if_pos (cmpI_eq rfl), ih]
      simp [ordI, lessI]
    · have h1 : ¬ x = y := by omega
      have h2 : ¬ y = x := by omega
      have h3 : ¬ x < y := by omega
      rw [cmpI_gt h]
      simp [ordI, lessI, h1, h2, h, h3]

/-! ### Sorting -/
theorem letBefore_mem (ws : List Nat) : ∀ a x, x ∈ letBefore ws a → x < a
  | 0, x, h => by simp [letBefore] at h
  | a + 1, x, h => by
    simp only [letBefore, List.mem_append, List.mem_filter, beq_iff_eq] at h
    rcases h with h | ⟨_, rfl⟩
    · have := letBefore_mem ws a x h; omega
    · omega
theorem letBefore_count (ws : List Nat) (x : Nat) : ∀ a, (letBefore ws a).count x = if x < a then ws.count x else 0
  | 0 => by simp [letBefore]
  | a + 1 => by
    have ih := letBefore_count ws x a
    show (letBefore ws a ++ ws.filter (· == a)).count x = _
    rw [List.count_append, ih]
    by_cases hx : x = a
    · subst hx
      rw [if_neg (by omega), if_pos (by omega), Nat.zero_add]
      rw [List.count_filter (by simp)]
    · have h0 : (ws.filter (· == a)).count x = 0 := by
        apply List.count_eq_zero_of_not_mem
        intro hm
        exact hx (by simpa using (List.mem_filter.1 hm).2)
      rw [h0, Nat.add_zero]
      by_cases hlt : x < a
      · rw [if_pos hlt, if_pos (by omega)]
      · rw [if_neg hlt, if_neg (by omega)]
theorem letBefore_perm (ws : List Nat) (K : Nat) (h : ∀ a ∈ ws, a < K) : (letBefore ws K).Perm ws := by
  rw [List.perm_iff_count]
  intro x
  rw [letBefore_count]
  by_cases hx : x < K
  · rw [if_pos hx]
  · rw [if_neg hx, List.count_eq_zero_of_not_mem]
    intro hm
    exact hx (h x hm)
theorem letBefore_sorted (ws : List Nat) : ∀ a, (letBefore ws a).Pairwise (· ≤ ·)
  | 0 => by simp [letBefore]
  | a + 1 => by
    show (letBefore ws a ++ ws.filter (· == a)).Pairwise (· ≤ ·)
    rw [List.pairwise_append]
    refine ⟨letBefore_sorted ws a, ?_, ?_⟩
    · refine List.Pairwise.imp_of_mem (R := fun _ _ => True) ?_ (List.pairwise_of_forall (fun _ _ => trivial))
      intro x y hx hy _
      have h1 : x = a := by simpa using (List.mem_filter.1 hx).2
      have h2 : y = a := by simpa using (List.mem_filter.1 hy).2
      omega
    · intro x hx y hy
      have h1 := letBefore_mem ws a x hx
      have h2 : y = a := by simpa using (List.mem_filter.1 hy).2
      omega
theorem sortI_let (ws : List Nat) (h : ∀ a ∈ ws, a < 8) : sortI (ints ws) = ints (letBefore ws 8) := by
  refine List.Perm.eq_of_pairwise (le := fun x y : Int => x ≤ y) (fun a b _ _ h1 h2 => by omega) ?_ ?_ ?_
  · have := List.pairwise_mergeSort (le := fun x y : Int => decide (x ≤ y)) (fun a b c h1 h2 => by simp at *; omega) (fun a b => by simp; omega) (ints ws)
    exact this.imp (fun h => by simpa using h)
  · unfold ints
    rw [List.pairwise_map]
    exact (letBefore_sorted ws 8).imp (fun h => by omega)
  · exact (List.mergeSort_perm _ _).trans ((letBefore_perm ws 8 h).symm.map _)

/-! ### Steps -/
theorem ints_inj : ∀ {xs ys : List Nat}, ints xs = ints ys → xs = ys
  | [], [], _ => rfl
  | [], _ :: _, h => by simp [ints] at h
  | _ :: _, [], h => by simp [ints] at h
  | x :: xs, y :: ys, h => by
    simp only [ints, List.map_cons, List.cons.injEq] at h
    rw [ints_inj (xs := xs) (ys := ys) h.2, show x = y by omega]
theorem lessI_irrefl : ∀ xs : List Int, lessI xs xs = false
  | [] => rfl
  | x :: xs => by simp [lessI, lessI_irrefl xs]
theorem lessI_total : ∀ xs ys : List Int, lessI xs ys = false → lessI ys xs = false → xs = ys
  | [], [], _, _ => rfl
  | [], _ :: _, h, _ => by simp [lessI] at h
  | _ :: _, [], _, h => by simp [lessI] at h
  | x :: xs, y :: ys, h1, h2 => by
    simp only [lessI] at h1 h2
    by_cases e : x = y
    · subst e
      simp only [if_true] at h1 h2
      rw [lessI_total xs ys h1 h2]
    · have e' : ¬ y = x := fun h => e h.symm
      rw [if_neg e] at h1
      rw [if_neg e'] at h2
      simp at h1 h2
      omega
theorem before_ne {xs ys : List Int} (h : ¬ xs.length = ys.length) : beforeI xs ys = decide (xs.length < ys.length) := if_neg h
theorem before_eq {xs ys : List Int} (h : xs.length = ys.length) : beforeI xs ys = lessI xs ys := if_pos h
theorem step_eq (p q : Nat) : cmpStep p q = stepS p q := by
  unfold cmpStep stepS orI
  rw [lexBy_ord]
  show (if cmpI _ _ = 0 then ordI (ints (mem p)) (ints (mem q)) else _) = _
  by_cases hl : (mem p).length = (mem q).length
  · rw [if_pos (by rw [hl]; exact cmpI_eq rfl)]
    unfold beforeI ordI
    rw [ints_length, ints_length, if_pos hl, if_pos hl.symm]
  · rw [if_neg (by rw [cmpI_zero]; omega), before_ne (by rw [ints_length, ints_length]; exact hl), before_ne (by rw [ints_length, ints_length]; exact fun h => hl h.symm), ints_length, ints_length]
    unfold cmpI
    by_cases h1 : (mem p).length < (mem q).length
    · rw [if_pos (by omega), if_pos (by simpa using h1)]
    · rw [if_neg (by omega), if_pos (by omega), if_neg (by simpa using h1), if_pos (by simp; omega)]
theorem step_zero {p q : Nat} (hp : p < 2 ^ 63) (hq : q < 2 ^ 63) (h : stepS p q = 0) : p = q := by
  unfold stepS at h
  split at h
  · cases h
  · rename_i h1
    split at h
    · cases h
    · rename_i h2
      simp only [Bool.not_eq_true] at h1 h2
      have hl : (mem p).length = (mem q).length := by
        unfold beforeI at h1 h2
        rw [ints_length, ints_length] at h1 h2
        apply Nat.le_antisymm
        · apply Nat.le_of_not_lt
          intro hlt
          rw [if_neg (by omega)] at h2
          simp at h2; omega
        · apply Nat.le_of_not_lt
          intro hlt
          rw [if_neg (by omega)] at h1
          simp at h1; omega
      unfold beforeI at h1 h2
      rw [ints_length, ints_length, if_pos hl] at h1
      rw [ints_length, ints_length, if_pos hl.symm] at h2
      have hm := ints_inj (lessI_total _ _ h1 h2)
      apply Nat.eq_of_testBit_eq
      intro i
      rw [Bool.eq_iff_iff, ← mem_iff hp, ← mem_iff hq, hm]
theorem cmpSt_eq (p q : Nat) : cmpSt (p : Int) (q : Int) = stepS p q := by
  unfold cmpSt
  rw [Int.toNat_natCast, Int.toNat_natCast, step_eq]

/-- The number of the letters of a form. -/
def tot : List Nat → Nat
  | [] => 0
  | s :: S => (mem s).length + tot S
theorem lexSt_steps : ∀ (F G : List Nat), (∀ s ∈ F, s < 2 ^ 63 ∧ s ≠ 0) → (∀ s ∈ G, s < 2 ^ 63 ∧ s ≠ 0) → tot F = tot G → lexBy cmpSt (ints F) (ints G) = stepsS F G
  | [], [], _, _, _ => rfl
  | [], g :: G, _, hG, h => by
    exfalso
    have h1 := hG g (by simp)
    have h2 := mem_step (Nat.pos_of_ne_zero h1.2) h1.1
    simp only [tot, h2, List.length_cons] at h
    omega
  | f :: F, [], hF, _, h => by
    exfalso
    have h1 := hF f (by simp)
    have h2 := mem_step (Nat.pos_of_ne_zero h1.2) h1.1
    simp only [tot, h2, List.length_cons] at h
    omega
  | f :: F, g :: G, hF, hG, h => by
    show (if cmpSt (f : Int) (g : Int) = 0 then lexBy cmpSt (ints F) (ints G) else cmpSt (f : Int) (g : Int)) = if stepS f g = 0 then stepsS F G else stepS f g
    rw [cmpSt_eq]
    by_cases hz : stepS f g = 0
    · rw [if_pos hz, if_pos hz]
      have := step_zero (hF f (by simp)).1 (hG g (by simp)).1 hz
      subst this
      exact lexSt_steps F G (fun s hs => hF s (by simp [hs])) (fun s hs => hG s (by simp [hs])) (by simp [tot] at h; omega)
    · rw [if_neg hz, if_neg hz]
end Go.Proofs.YtopfcpnilblieaaGreatDoor
