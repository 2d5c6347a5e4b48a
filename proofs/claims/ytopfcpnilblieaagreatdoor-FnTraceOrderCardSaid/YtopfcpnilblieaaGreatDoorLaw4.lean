/- the plain law of the order of traces, all of it -/
import Derived.Test.YtopfcpnilblieaaGreatDoorLaw3
namespace Go.Proofs.YtopfcpnilblieaaGreatDoor
open Go.RowKit

theorem mem_flat {b : Nat} : ∀ {F : List Nat}, b ∈ flat F → ∃ j, j < F.length ∧ b ∈ mem (F.getD j 0)
  | [], h => by simp [flat] at h
  | f :: F, h => by
    simp only [flat, List.mem_append] at h
    rcases h with h | h
    · exact ⟨0, by simp, h⟩
    · obtain ⟨j, h1, h2⟩ := mem_flat h
      exact ⟨j + 1, by simpa using h1, h2⟩
theorem mem_pow {a : Nat} (ha : a < 63) : mem (2 ^ a) = [a] := by
  have := mem_ins (s := 0) ha (by simp)
  rw [Nat.zero_or] at this
  rw [this]
  have h0 : mem 0 = [] := by
    unfold mem
    rw [List.filter_eq_nil_iff]
    intro i _
    simp
  rw [h0]; rfl
theorem flat_same {ds S : List Nat} {a : Nat} (hD : Dep ds) (hl : Small ds) (ha : a < ds.length) (h63 : ds.length ≤ 63) (hS : ∀ s ∈ S, s < 2 ^ 63) : Tr.Same (DD ds) (flat S ++ [a]) (flat (dropS ds S a)) := by
  have hr := hD.refl a ha
  have hle := lev_le S (ds.getD a 0)
  have no : ∀ j, lev S (ds.getD a 0) ≤ j → j < S.length → ∀ b ∈ mem (S.getD j 0), DD ds a b = false := by
    intro j hj hjl b hb
    have h0 := lev_high hj
    have hlt : S.getD j 0 < 2 ^ 63 := by rw [getD_at hjl]; exact hS _ (List.getElem_mem hjl)
    have hb' := (mem_iff hlt).1 hb
    have h1 : depB ds a b = false := by
      cases hd : depB ds a b with
      | false => rfl
      | true => exact absurd h0 (and_ne_zero.2 ⟨b, hb', hd⟩)
    have h2 : ¬ a = b := by
      intro e
      subst e
      exact absurd h0 (and_ne_zero.2 ⟨a, hb', hr⟩)
    simp [DD, h1, h2]
  unfold dropS putAt
  by_cases hL : lev S (ds.getD a 0) = S.length
  · rw [if_pos hL, flat_append]
    simp only [flat, List.append_nil]
    rw [mem_pow (by omega)]
    exact Tr.Same.refl _ _
  · rw [if_neg hL]
    have hLt : lev S (ds.getD a 0) < S.length := by omega
    have hna := no _ (Nat.le_refl _) hLt
    have hlater : ∀ b ∈ flat (S.drop (lev S (ds.getD a 0) + 1)), DD ds a b = false := by
      intro b hb
      obtain ⟨j, h1, h2⟩ := mem_flat hb
      rw [List.length_drop] at h1
      refine no (lev S (ds.getD a 0) + 1 + j) (by omega) (by omega) b ?_
      simpa [List.getD_eq_getElem?_getD, List.getElem?_drop] using h2
    have hset := List.set_eq_take_append_cons_drop (l := S) (i := lev S (ds.getD a 0)) (a := S.getD (lev S (ds.getD a 0)) 0 ||| 2 ^ a)
    rw [if_pos hLt] at hset
    rw [hset]
    have hself : S = S.take (lev S (ds.getD a 0)) ++ S.getD (lev S (ds.getD a 0)) 0 :: S.drop (lev S (ds.getD a 0) + 1) := by
      rw [getD_at hLt, List.getElem_cons_drop, List.take_append_drop]
    have hbit : (S.getD (lev S (ds.getD a 0)) 0).testBit a = false := by
      cases hb : (S.getD (lev S (ds.getD a 0)) 0).testBit a with
      | false => rfl
      | true => exact absurd (lev_high (S := S) (Nat.le_refl _)) (and_ne_zero.2 ⟨a, hb, hr⟩)
    generalize S.getD (lev S (ds.getD a 0)) 0 = x at hna hself hbit
    generalize S.take (lev S (ds.getD a 0)) = X at hself
    generalize S.drop (lev S (ds.getD a 0) + 1) = Y at hself hlater
    have e1 : flat S = flat X ++ (mem x ++ flat Y) := by rw [hself, flat_append]; rfl
    have e2 : flat (X ++ (x ||| 2 ^ a) :: Y) = flat X ++ (mem (x ||| 2 ^ a) ++ flat Y) := by rw [flat_append]; rfl
    rw [e1, e2, mem_ins (by omega) hbit, List.append_assoc]
    refine Tr.Same.append (Tr.Same.refl _ _) ?_
    obtain ⟨p, q, h1, h2⟩ := ins_split a (mem x)
    rw [h1]
    have s1 := Tr.same_front (DD_refl ds) (DD_symm hD hl) (a := a) (mem x ++ flat Y) [] (fun b hb => by
      rcases List.mem_append.1 hb with hb | hb
      · exact hna b hb
      · exact hlater b hb)
    have s2 := Tr.same_front (DD_refl ds) (DD_symm hD hl) (a := a) p (q ++ flat Y) (fun b hb => hna b (by rw [h2]; simp [hb]))
    rw [List.append_nil] at s1
    have e3 : p ++ a :: q ++ flat Y = p ++ a :: (q ++ flat Y) := by simp
    have e4 : mem x ++ flat Y = p ++ (q ++ flat Y) := by rw [h2]; simp
    rw [e3]
    rw [e4] at s1 ⊢
    exact s1.trans s2.symm
theorem flat_fold {ds : List Nat} (hD : Dep ds) (hl : Small ds) (h63 : ds.length ≤ 63) : ∀ (ws S : List Nat), (∀ a ∈ ws, a < ds.length) → (∀ s ∈ S, s < 2 ^ 63) → Tr.Same (DD ds) (flat S ++ ws) (flat (ws.foldl (dropS ds) S))
  | [], S, _, _ => by rw [List.append_nil]; exact Tr.Same.refl _ _
  | a :: ws, S, hw, hS => by
    have ha := hw a (by simp)
    have h1 := flat_fold hD hl h63 ws (dropS ds S a) (fun b hb => hw b (by simp [hb])) (putAt_lt hS (by omega))
    have h2 := (flat_same hD hl ha h63 hS).append (Tr.Same.refl (DD ds) ws)
    rw [List.append_assoc] at h2
    exact h2.trans h1
theorem same_perm {ds u v : List Nat} (h : Tr.Same (DD ds) u v) : u.Perm v := by
  rw [List.perm_iff_count]
  intro a
  have := congrArg List.length (h a a (DD_refl ds a))
  simp only [Bool.or_self] at this
  rw [← List.countP_eq_length_filter, ← List.countP_eq_length_filter] at this
  exact this

/-- An alphabet of at most 8 letters. -/
structure Good (ds : List Nat) : Prop where
  dep : Dep ds
  small : Small ds
  le : ds.length ≤ 8
theorem foata_same {ds us vs : List Nat} (h : Good ds) (hu : ∀ a ∈ us, a < ds.length) (hv : ∀ a ∈ vs, a < ds.length) : foataL ds us = foataL ds vs ↔ Tr.Same (DD ds) us vs := by
  constructor
  · intro e
    have h8 := h.le
    have h1 := flat_fold h.dep h.small (by omega) us [] hu (by simp)
    have h2 := flat_fold h.dep h.small (by omega) vs [] hv (by simp)
    simp only [flat, List.nil_append] at h1 h2
    unfold foataL at e
    rw [e] at h1
    exact h1.trans h2.symm
  · exact fold_same h.dep h.small us vs []

theorem let_eq {us vs : List Nat} (hu : ∀ a ∈ us, a < 8) (hv : ∀ a ∈ vs, a < 8) (h : us.Perm vs) : letBefore us 8 = letBefore vs 8 :=
  sorted_eq (letBefore_sorted _ _) (letBefore_sorted _ _) (((letBefore_perm us 8 hu).trans h).trans (letBefore_perm vs 8 hv).symm)
theorem let_perm {us vs : List Nat} (hu : ∀ a ∈ us, a < 8) (hv : ∀ a ∈ vs, a < 8) (h : letBefore us 8 = letBefore vs 8) : us.Perm vs :=
  ((letBefore_perm us 8 hu).symm.trans (h ▸ List.Perm.refl _)).trans (letBefore_perm vs 8 hv)
theorem let_snoc {us : List Nat} {a : Nat} (hu : ∀ a ∈ us, a < 8) (ha : a < 8) : letBefore (us ++ [a]) 8 = ins a (letBefore us 8) := by
  refine sorted_eq (letBefore_sorted _ _) (ins_sorted a _ (letBefore_sorted _ _)) ?_
  have h1 := letBefore_perm (us ++ [a]) 8 (fun b hb => by
    rcases List.mem_append.1 hb with hb | hb
    · exact hu b hb
    · rw [List.mem_singleton.1 hb]; exact ha)
  have h2 := ins_perm a (letBefore us 8)
  have h3 : (us ++ [a]).Perm (a :: us) := List.perm_append_comm (l₁ := us) (l₂ := [a])
  exact (h1.trans h3).trans (((letBefore_perm us 8 hu).symm.cons a).trans h2.symm)

/-! ### Orders -/
theorem ord_self (xs : List Int) : ordI xs xs = 0 := by simp [ordI, lessI_irrefl]
theorem ord_zero {xs ys : List Int} (h : ordI xs ys = 0) : xs = ys := by
  unfold ordI at h
  split at h
  · cases h
  · rename_i h1
    split at h
    · cases h
    · rename_i h2
      exact lessI_total xs ys (by simpa using h1) (by simpa using h2)
theorem lessI_asymm : ∀ xs ys : List Int, lessI xs ys = true → lessI ys xs = false
  | [], [], _ => rfl
  | [], _ :: _, _ => rfl
  | _ :: _, [], h => by simp [lessI] at h
  | x :: xs, y :: ys, h => by
    simp only [lessI] at h ⊢
    by_cases e : x = y
    · subst e
      simp only [if_true] at h ⊢
      exact lessI_asymm xs ys h
    · rw [if_neg e] at h
      rw [if_neg (fun k => e k.symm)]
      simp at h ⊢
      omega
theorem ord_anti (xs ys : List Int) : ordI ys xs = - ordI xs ys := by
  unfold ordI
  by_cases h1 : lessI xs ys = true
  · have h2 := lessI_asymm xs ys h1
    simp [h1, h2]
  · by_cases h2 : lessI ys xs = true
    · simp [h1, h2]
    · simp [h1, h2]
theorem before_asymm {xs ys : List Int} (h : beforeI xs ys = true) : beforeI ys xs = false := by
  by_cases hl : xs.length = ys.length
  · rw [before_eq hl] at h
    rw [before_eq hl.symm]
    exact lessI_asymm xs ys h
  · rw [before_ne hl] at h
    rw [before_ne (fun e => hl e.symm)]
    simp at h ⊢
    omega
theorem step_anti (p q : Nat) : stepS q p = - stepS p q := by
  unfold stepS
  by_cases h1 : beforeI (ints (mem p)) (ints (mem q)) = true
  · have h2 := before_asymm h1
    simp [h1, h2]
  · by_cases h2 : beforeI (ints (mem q)) (ints (mem p)) = true
    · simp [h1, h2]
    · simp [h1, h2]
theorem step_range (p q : Nat) : -1 ≤ stepS p q ∧ stepS p q ≤ 1 := by
  unfold stepS
  split
  · omega
  · split <;> omega
theorem step_self (p : Nat) : stepS p p = 0 := by
  have := step_anti p p
  omega
theorem steps_anti : ∀ F G : List Nat, stepsS G F = - stepsS F G
  | [], [] => rfl
  | [], _ :: _ => rfl
  | _ :: _, [] => rfl
  | f :: F, g :: G => by
    simp only [stepsS]
    have h := step_anti f g
    by_cases hz : stepS f g = 0
    · rw [if_pos hz, if_pos (by omega)]
      exact steps_anti F G
    · rw [if_neg hz, if_neg (by omega), h]
theorem steps_range : ∀ F G : List Nat, -1 ≤ stepsS F G ∧ stepsS F G ≤ 1
  | [], [] => by simp [stepsS]
  | [], _ :: _ => by simp [stepsS]
  | _ :: _, [] => by simp [stepsS]
  | f :: F, g :: G => by
    simp only [stepsS]
    split
    · exact steps_range F G
    · exact step_range f g
theorem steps_self : ∀ F : List Nat, stepsS F F = 0
  | [] => rfl
  | f :: F => by simp only [stepsS, step_self, if_true]; exact steps_self F
theorem steps_zero : ∀ F G : List Nat, (∀ s ∈ F, s < 2 ^ 63 ∧ s ≠ 0) → (∀ s ∈ G, s < 2 ^ 63 ∧ s ≠ 0) → tot F = tot G → stepsS F G = 0 → F = G
  | [], [], _, _, _, _ => rfl
  | [], g :: G, _, hG, h, _ => by
    exfalso
    have h1 := hG g (by simp)
    have h2 := mem_step (Nat.pos_of_ne_zero h1.2) h1.1
    simp only [tot, h2, List.length_cons] at h
    omega
  | f :: F, [], hF, _, h, _ => by
    exfalso
    have h1 := hF f (by simp)
    have h2 := mem_step (Nat.pos_of_ne_zero h1.2) h1.1
    simp only [tot, h2, List.length_cons] at h
    omega
  | f :: F, g :: G, hF, hG, h, hz => by
    simp only [stepsS] at hz
    by_cases e : stepS f g = 0
    · rw [if_pos e] at hz
      have := step_zero (hF f (by simp)).1 (hG g (by simp)).1 e
      subst this
      rw [steps_zero F G (fun s hs => hF s (by simp [hs])) (fun s hs => hG s (by simp [hs])) (by simp only [tot] at h; omega) hz]
    · rw [if_neg e] at hz
      exact absurd hz e

/-! ### The order of traces -/
section
variable {ds us vs : List Nat}
theorem steps_good (h : Good ds) (hu : ∀ a ∈ us, a < ds.length) : (∀ s ∈ foataL ds us, s < 2 ^ 63 ∧ s ≠ 0) ∧ tot (foataL ds us) = us.length := by
  have h8 := h.le
  have t := foata_tot h.dep (by omega) us [] hu (by simp)
  refine ⟨fun s hs => ⟨foata_lt us [] (fun a ha => by have := hu a ha; omega) (by simp) s hs, t.2 s hs⟩, ?_⟩
  have := t.1
  simpa [tot, foataL] using this
theorem cmpS_form (h : Good ds) (hu : ∀ a ∈ us, a < ds.length) (hv : ∀ a ∈ vs, a < ds.length) (hl : us.length = vs.length) :
    cmpS ds us vs = if ordI (ints (letBefore us 8)) (ints (letBefore vs 8)) = 0 then stepsS (foataL ds us) (foataL ds vs) else ordI (ints (letBefore us 8)) (ints (letBefore vs 8)) := by
  unfold cmpS
  rw [if_pos hl, foata_eq h.dep hu, foata_eq h.dep hv]
theorem cmpS_zero (h : Good ds) (hu : ∀ a ∈ us, a < ds.length) (hv : ∀ a ∈ vs, a < ds.length) : cmpS ds us vs = 0 ↔ Tr.Same (DD ds) us vs := by
  have h8 := h.le
  constructor
  · intro e
    by_cases hl : us.length = vs.length
    · rw [cmpS_form h hu hv hl] at e
      split at e
      · obtain ⟨a1, a2⟩ := steps_good h hu
        obtain ⟨b1, b2⟩ := steps_good h hv
        exact (foata_same h hu hv).1 (steps_zero _ _ a1 b1 (by rw [a2, b2, hl]) e)
      · rename_i hz
        exact absurd e hz
    · unfold cmpS at e
      rw [if_neg hl] at e
      split at e <;> cases e
  · intro e
    have hp := same_perm e
    rw [cmpS_form h hu hv hp.length_eq, let_eq (fun a ha => Nat.lt_of_lt_of_le (hu a ha) h8) (fun a ha => Nat.lt_of_lt_of_le (hv a ha) h8) hp, if_pos (ord_self _), (foata_same h hu hv).2 e]
    exact steps_self _
theorem cmpS_anti (h : Good ds) (hu : ∀ a ∈ us, a < ds.length) (hv : ∀ a ∈ vs, a < ds.length) : cmpS ds vs us = - cmpS ds us vs := by
  by_cases hl : us.length = vs.length
  · rw [cmpS_form h hu hv hl, cmpS_form h hv hu hl.symm, ord_anti (ints (letBefore us 8)) (ints (letBefore vs 8)), steps_anti (foataL ds us) (foataL ds vs)]
    by_cases hz : ordI (ints (letBefore us 8)) (ints (letBefore vs 8)) = 0
    · rw [if_pos hz, if_pos (by omega)]
    · rw [if_neg hz, if_neg (by omega)]
  · unfold cmpS
    rw [if_neg hl, if_neg (fun e => hl e.symm)]
    by_cases hlt : us.length < vs.length
    · rw [if_pos hlt, if_neg (by omega)]; rfl
    · rw [if_neg hlt, if_pos (by omega)]
theorem ord_range (xs ys : List Int) : -1 ≤ ordI xs ys ∧ ordI xs ys ≤ 1 := by
  unfold ordI
  split
  · omega
  · split <;> omega
theorem cmpS_range (h : Good ds) (hu : ∀ a ∈ us, a < ds.length) (hv : ∀ a ∈ vs, a < ds.length) : -1 ≤ cmpS ds us vs ∧ cmpS ds us vs ≤ 1 := by
  by_cases hl : us.length = vs.length
  · rw [cmpS_form h hu hv hl]
    split
    · exact steps_range _ _
    · exact ord_range _ _
  · unfold cmpS
    rw [if_neg hl]
    split <;> omega
theorem cmpS_snoc (h : Good ds) (hu : ∀ a ∈ us, a < ds.length) (hv : ∀ a ∈ vs, a < ds.length) {a : Nat} (ha : a < ds.length) : cmpS ds (us ++ [a]) (vs ++ [a]) = cmpS ds us vs := by
  have h8 := h.le
  have hu8 : ∀ a ∈ us, a < 8 := fun a ha => Nat.lt_of_lt_of_le (hu a ha) h8
  have hv8 : ∀ a ∈ vs, a < 8 := fun a ha => Nat.lt_of_lt_of_le (hv a ha) h8
  have more : ∀ ws : List Nat, (∀ a ∈ ws, a < ds.length) → ∀ b ∈ ws ++ [a], b < ds.length := fun ws hw b hb => by
    rcases List.mem_append.1 hb with hb | hb
    · exact hw b hb
    · rw [List.mem_singleton.1 hb]; exact ha
  have snoc : ∀ ws : List Nat, foataL ds (ws ++ [a]) = dropS ds (foataL ds ws) a := fun ws => by unfold foataL; rw [List.foldl_append]; rfl
  by_cases hl : us.length = vs.length
  · rw [cmpS_form h (more us hu) (more vs hv) (by simp [hl]), cmpS_form h hu hv hl, let_snoc hu8 (by omega), let_snoc hv8 (by omega), snoc, snoc]
    have hll : (letBefore us 8).length = (letBefore vs 8).length := by rw [(letBefore_perm us 8 hu8).length_eq, (letBefore_perm vs 8 hv8).length_eq, hl]
    have ho : ordI (ints (ins a (letBefore us 8))) (ints (ins a (letBefore vs 8))) = ordI (ints (letBefore us 8)) (ints (letBefore vs 8)) := by
      unfold ordI
      rw [lessI_ins a _ _ hll, lessI_ins a _ _ hll.symm]
    rw [ho]
    by_cases hz : ordI (ints (letBefore us 8)) (ints (letBefore vs 8)) = 0
    · rw [if_pos hz, if_pos hz]
      have hp := let_perm hu8 hv8 (ints_inj (ord_zero hz))
      have f1 := same_perm (flat_fold h.dep h.small (by omega) us [] hu (by simp))
      have f2 := same_perm (flat_fold h.dep h.small (by omega) vs [] hv (by simp))
      simp only [flat, List.nil_append] at f1 f2
      exact steps_drop (by omega) (h.dep.refl a ha) _ _ (steps_good h hu).1 (steps_good h hv).1 ((f1.symm.trans hp).trans f2)
    · rw [if_neg hz, if_neg hz]
  · unfold cmpS
    rw [if_neg (by simp; exact hl), if_neg hl]
    simp
theorem cmpS_app (h : Good ds) : ∀ (ts us vs : List Nat), (∀ a ∈ us, a < ds.length) → (∀ a ∈ vs, a < ds.length) → (∀ a ∈ ts, a < ds.length) → cmpS ds (us ++ ts) (vs ++ ts) = cmpS ds us vs
  | [], us, vs, _, _, _ => by rw [List.append_nil, List.append_nil]
  | a :: ts, us, vs, hu, hv, ht => by
    have ha := ht a (by simp)
    have more : ∀ ws : List Nat, (∀ a ∈ ws, a < ds.length) → ∀ b ∈ ws ++ [a], b < ds.length := fun ws hw b hb => by
      rcases List.mem_append.1 hb with hb | hb
      · exact hw b hb
      · rw [List.mem_singleton.1 hb]; exact ha
    have e : ∀ ws : List Nat, ws ++ a :: ts = (ws ++ [a]) ++ ts := fun ws => by simp
    rw [e us, e vs, cmpS_app h ts _ _ (more us hu) (more vs hv) (fun b hb => ht b (by simp [hb])), cmpS_snoc h hu hv ha]
theorem cmpS_prefix (h : Good ds) (hu : ∀ a ∈ us, a < ds.length) (ts : List Nat) : cmpS ds us (us ++ ts) = if ts = [] then 0 else -1 := by
  by_cases ht : ts = []
  · subst ht
    rw [if_pos rfl, List.append_nil]
    exact (cmpS_zero h hu hu).2 (Tr.Same.refl _ _)
  · rw [if_neg ht]
    have : 0 < ts.length := List.length_pos_iff.2 ht
    unfold cmpS
    rw [if_neg (by simp; exact ht), if_pos (by simp; omega)]
end
end Go.Proofs.YtopfcpnilblieaaGreatDoor
