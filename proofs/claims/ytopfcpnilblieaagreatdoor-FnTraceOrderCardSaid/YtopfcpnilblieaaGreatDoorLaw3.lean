/- the plain law of the order of traces: it is an order of traces, and stays the same behind words -/
import Derived.Test.YtopfcpnilblieaaGreatDoorLaw2
import Derived.Test.YtopfcpnilblieaaGreatDoorTr
namespace Go.Proofs.YtopfcpnilblieaaGreatDoor
open Go.RowKit

/-! ### Where a letter falls -/
theorem lev_unique {S : List Nat} {d l : Nat} (h1 : l = 0 ∨ ∃ j, l = j + 1 ∧ S.getD j 0 &&& d ≠ 0) (h2 : ∀ j, l ≤ j → S.getD j 0 &&& d = 0) : lev S d = l := by
  apply Nat.le_antisymm
  · apply Nat.le_of_not_lt
    intro hlt
    rcases levAt_low S d S.length with h | ⟨j, h, hne⟩
    · unfold lev at hlt; omega
    · exact hne (h2 j (by unfold lev at hlt; omega))
  · apply Nat.le_of_not_lt
    intro hlt
    rcases h1 with h | ⟨j, h, hne⟩
    · omega
    · exact hne (lev_high (by omega))
theorem lev_low (S : List Nat) (d : Nat) : lev S d = 0 ∨ ∃ j, lev S d = j + 1 ∧ S.getD j 0 &&& d ≠ 0 := levAt_low S d _
theorem putAt_and {S : List Nat} {L a d : Nat} (hL : L ≤ S.length) (h : d.testBit a = false) (l : Nat) : (putAt S L a).getD l 0 &&& d = S.getD l 0 &&& d := by
  apply Nat.eq_of_testBit_eq
  intro b
  rw [Nat.testBit_and, Nat.testBit_and, putAt_bit hL]
  by_cases e : a = b
  · subst e; rw [h]; simp
  · simp [e]
theorem lev_putAt {S : List Nat} {L a d : Nat} (hL : L ≤ S.length) (h : d.testBit a = false) : lev (putAt S L a) d = lev S d := by
  apply lev_unique
  · rcases lev_low S d with h0 | ⟨j, h0, hne⟩
    · exact .inl h0
    · exact .inr ⟨j, h0, by rw [putAt_and hL h]; exact hne⟩
  · intro j hj
    rw [putAt_and hL h]
    exact lev_high hj
theorem putAt_len (S : List Nat) (L a : Nat) : (putAt S L a).length = if L = S.length then S.length + 1 else S.length := by
  unfold putAt
  split <;> simp
theorem list_ext {S T : List Nat} (hl : S.length = T.length) (h : ∀ i, S.getD i 0 = T.getD i 0) : S = T := by
  apply List.ext_getElem hl
  intro i h1 h2
  have := h i
  rwa [getD_at h1, getD_at h2] at this
theorem putAt_comm {S : List Nat} {i j a b : Nat} (hi : i ≤ S.length) (hj : j ≤ S.length) : putAt (putAt S i a) j b = putAt (putAt S j b) i a := by
  have h1 := putAt_len S i a
  have h2 := putAt_len S j b
  have hj' : j ≤ (putAt S i a).length := by rw [h1]; split <;> omega
  have hi' : i ≤ (putAt S j b).length := by rw [h2]; split <;> omega
  apply list_ext
  · rw [putAt_len (putAt S i a), putAt_len (putAt S j b), h1, h2]
    repeat' split
    all_goals omega
  · intro l
    apply Nat.eq_of_testBit_eq
    intro c
    rw [putAt_bit hj', putAt_bit hi, putAt_bit hi', putAt_bit hj]
    simp only [Bool.or_assoc]
    congr 1
    rw [Bool.or_comm]
theorem drop_comm {ds S : List Nat} {a b : Nat} (h1 : (ds.getD a 0).testBit b = false) (h2 : (ds.getD b 0).testBit a = false) : dropS ds (dropS ds S a) b = dropS ds (dropS ds S b) a := by
  unfold dropS
  rw [lev_putAt (lev_le _ _) h2, lev_putAt (lev_le _ _) h1, putAt_comm (lev_le _ _) (lev_le _ _)]

/-! ### Traces -/
def DD (ds : List Nat) (a b : Nat) : Bool := depB ds a b || decide (a = b)
theorem DD_refl (ds : List Nat) (a : Nat) : DD ds a a = true := by simp [DD]
/-- The masks have no more letters than there are. -/
def Small (ds : List Nat) : Prop := ∀ m ∈ ds, m < 2 ^ ds.length
theorem dep_out {ds : List Nat} (hl : Small ds) {a b : Nat} (h : ds.length ≤ a ∨ ds.length ≤ b) : depB ds a b = false := by
  unfold depB
  by_cases ha : a < ds.length
  · rw [getD_at ha]
    exact Nat.testBit_lt_two_pow (Nat.lt_of_lt_of_le (hl _ (List.getElem_mem ha)) (Nat.pow_le_pow_right (by decide) (by omega)))
  · simp [List.getD_eq_getElem?_getD, List.getElem?_eq_none (Nat.le_of_not_lt ha)]
theorem DD_symm {ds : List Nat} (hD : Dep ds) (hl : Small ds) (a b : Nat) : DD ds a b = DD ds b a := by
  unfold DD
  have h : depB ds a b = depB ds b a := by
    by_cases ha : a < ds.length
    · by_cases hb : b < ds.length
      · exact hD.symm a b ha hb
      · rw [dep_out hl (.inr (by omega)), dep_out hl (.inl (by omega))]
    · rw [dep_out hl (.inl (by omega)), dep_out hl (.inr (by omega))]
  rw [h]
  congr 1
  by_cases e : a = b
  · simp [e]
  · have e' : ¬ b = a := fun h => e h.symm
    simp [e, e']
theorem DD_false {ds : List Nat} {a b : Nat} (h : DD ds a b = false) : (ds.getD a 0).testBit b = false ∧ a ≠ b := by
  unfold DD at h
  rw [Bool.or_eq_false_iff] at h
  exact ⟨h.1, by simpa using h.2⟩

theorem fold_front {ds : List Nat} (hD : Dep ds) (hl : Small ds) {a : Nat} : ∀ (p q S : List Nat), (∀ b ∈ p, DD ds a b = false) → (p ++ a :: q).foldl (dropS ds) S = (a :: (p ++ q)).foldl (dropS ds) S
  | [], q, S, _ => rfl
  | b :: p, q, S, h => by
    have hb := h b (by simp)
    have h1 := (DD_false hb).1
    rw [DD_symm hD hl] at hb
    have h2 := (DD_false hb).1
    show (p ++ a :: q).foldl (dropS ds) (dropS ds S b) = (b :: (p ++ q)).foldl (dropS ds) (dropS ds S a)
    rw [fold_front hD hl p q (dropS ds S b) (fun c hc => h c (by simp [hc]))]
    show (p ++ q).foldl (dropS ds) (dropS ds (dropS ds S b) a) = (p ++ q).foldl (dropS ds) (dropS ds (dropS ds S a) b)
    rw [drop_comm h2 h1]
theorem fold_same {ds : List Nat} (hD : Dep ds) (hl : Small ds) : ∀ (u v S : List Nat), Tr.Same (DD ds) u v → u.foldl (dropS ds) S = v.foldl (dropS ds) S
  | [], v, S, h => by
    cases v with
    | nil => rfl
    | cons b v => have := h.symm.mem (DD_refl ds) (a := b) (by simp); simp at this
  | a :: u, v, S, h => by
    have ha : Tr.First (DD ds) (a :: u) a := ⟨[], u, rfl, by simp⟩
    have hv := ha.same (DD_refl ds) (DD_symm hD hl) h
    obtain ⟨p, q, rfl, _, hp, he⟩ := hv.split (DD_refl ds)
    rw [fold_front hD hl p q S hp]
    have h1 := h.erase (DD_refl ds) (DD_symm hD hl) ha
    rw [he, List.erase_cons_head] at h1
    show u.foldl (dropS ds) (dropS ds S a) = (p ++ q).foldl (dropS ds) (dropS ds S a)
    exact fold_same hD hl u (p ++ q) _ h1

/-! ### A letter put into a sorted list -/
def ins (a : Nat) : List Nat → List Nat
  | [] => [a]
  | x :: xs => if a ≤ x then a :: x :: xs else x :: ins a xs
theorem ins_perm (a : Nat) : ∀ xs, (ins a xs).Perm (a :: xs)
  | [] => List.Perm.refl _
  | x :: xs => by
    unfold ins
    split
    · exact List.Perm.refl _
    · exact ((ins_perm a xs).cons x).trans (List.Perm.swap a x xs)
theorem ins_sorted (a : Nat) : ∀ xs : List Nat, xs.Pairwise (· ≤ ·) → (ins a xs).Pairwise (· ≤ ·)
  | [], _ => by simp [ins]
  | x :: xs, h => by
    have h' := List.pairwise_cons.1 h
    unfold ins
    split
    · rename_i hx
      rw [List.pairwise_cons]
      refine ⟨fun y hy => ?_, h⟩
      rcases List.mem_cons.1 hy with rfl | hy
      · exact hx
      · have := h'.1 y hy; omega
    · rename_i hx
      rw [List.pairwise_cons]
      refine ⟨fun y hy => ?_, ins_sorted a xs h'.2⟩
      rcases List.mem_cons.1 ((ins_perm a xs).mem_iff.1 hy) with rfl | hy
      · omega
      · exact h'.1 y hy
theorem ins_split (a : Nat) : ∀ xs, ∃ p q, ins a xs = p ++ a :: q ∧ xs = p ++ q
  | [] => ⟨[], [], rfl, rfl⟩
  | x :: xs => by
    unfold ins
    split
    · exact ⟨[], x :: xs, rfl, rfl⟩
    · obtain ⟨p, q, h1, h2⟩ := ins_split a xs
      exact ⟨x :: p, q, by rw [h1]; rfl, by rw [h2]; rfl⟩
theorem sorted_eq {xs ys : List Nat} (hx : xs.Pairwise (· ≤ ·)) (hy : ys.Pairwise (· ≤ ·)) (h : xs.Perm ys) : xs = ys :=
  List.Perm.eq_of_pairwise (le := fun x y : Nat => x ≤ y) (fun a b _ _ h1 h2 => by omega) hx hy h
theorem lessI_ins (a : Nat) : ∀ xs ys : List Nat, xs.length = ys.length → lessI (ints (ins a xs)) (ints (ins a ys)) = lessI (ints xs) (ints ys)
  | [], [], _ => by simp [ins, ints, lessI]
  | [], _ :: _, h => by simp at h
  | _ :: _, [], h => by simp at h
  | x :: xs, y :: ys, h => by
    have ih := lessI_ins a xs ys (by simpa using h)
    have e : ∀ (z : Nat) (zs : List Nat), ints (z :: zs) = (z : Int) :: ints zs := fun _ _ => rfl
    unfold ins
    by_cases hx : a ≤ x <;> by_cases hy : a ≤ y
    · rw [if_pos hx, if_pos hy, e a, e a]
      simp [lessI]
    · rw [if_pos hx, if_neg hy, e a, e y, e x, e y]
      have h1 : ¬ (a : Int) = y := by omega
      have h2 : ¬ (x : Int) = y := by omega
      have h3 : ¬ (a : Int) < y := by omega
      have h4 : ¬ (x : Int) < y := by omega
      simp [lessI, h1, h2, h3, h4]
    · rw [if_neg hx, if_pos hy, e a, e x, e x, e y]
      have h1 : ¬ (x : Int) = a := by omega
      have h2 : ¬ (x : Int) = y := by omega
      have h3 : (x : Int) < a := by omega
      have h4 : (x : Int) < y := by omega
      simp [lessI, h1, h2, h3, h4]
    · rw [if_neg hx, if_neg hy, e x, e y, e x, e y]
      simp only [lessI, ih]
theorem ins_length (a : Nat) (xs : List Nat) : (ins a xs).length = xs.length + 1 := (ins_perm a xs).length_eq
theorem mem_sorted (m : Nat) : (mem m).Pairwise (· ≤ ·) := (List.pairwise_lt_range.filter _).imp (fun h => Nat.le_of_lt h)
theorem mem_nodup (m : Nat) : (mem m).Nodup := List.nodup_range.filter _
theorem mem_ins {s a : Nat} (ha : a < 63) (h : s.testBit a = false) : mem (s ||| 2 ^ a) = ins a (mem s) := by
  apply sorted_eq (mem_sorted _) (ins_sorted a _ (mem_sorted s))
  rw [List.perm_iff_count]
  intro x
  rw [(ins_perm a (mem s)).count_eq, List.count_cons]
  have hc : ∀ m, (mem m).count x = if x < 63 ∧ m.testBit x = true then 1 else 0 := by
    intro m
    rw [(mem_nodup m).count]
    simp [mem]
  rw [hc, hc, Nat.testBit_or, Nat.testBit_two_pow]
  by_cases e : a = x
  · subst e
    simp [h, ha]
  · simp [e]

/-! ### Falls, step by step -/
theorem lev_cons (f : Nat) (F : List Nat) (d : Nat) : lev (f :: F) d = if lev F d = 0 then (if f &&& d = 0 then 0 else 1) else lev F d + 1 := by
  apply lev_unique
  · rcases lev_low F d with h | ⟨j, h, hne⟩
    · rw [if_pos h]
      by_cases hf : f &&& d = 0
      · rw [if_pos hf]; exact .inl rfl
      · rw [if_neg hf]; exact .inr ⟨0, rfl, hf⟩
    · rw [if_neg (by omega)]
      exact .inr ⟨j + 1, by omega, hne⟩
  · intro j hj
    cases j with
    | zero =>
      show f &&& d = 0
      split at hj
      · split at hj
        · assumption
        · omega
      · omega
    | succ j =>
      show F.getD j 0 &&& d = 0
      apply lev_high
      split at hj
      · omega
      · omega
theorem putAt_cons (f : Nat) (F : List Nat) (i a : Nat) : putAt (f :: F) (i + 1) a = f :: putAt F i a := by
  unfold putAt
  simp only [List.length_cons, Nat.add_right_cancel_iff]
  split <;> rfl
theorem drop_cons {ds F : List Nat} {f a : Nat} : dropS ds (f :: F) a = if lev (f :: F) (ds.getD a 0) = 0 then (f ||| 2 ^ a) :: F else f :: dropS ds F a := by
  unfold dropS
  split
  · rename_i h
    rw [h]
    rfl
  · rename_i h
    have hc := lev_cons f F (ds.getD a 0)
    have : lev (f :: F) (ds.getD a 0) = lev F (ds.getD a 0) + 1 := by
      rw [hc] at h ⊢
      split
      · rename_i h0
        rw [if_pos h0] at h
        split
        · rename_i hf; rw [if_pos hf] at h; omega
        · omega
      · rfl
    rw [this, putAt_cons]
def flat : List Nat → List Nat
  | [] => []
  | f :: F => mem f ++ flat F
theorem flat_append : ∀ F G, flat (F ++ G) = flat F ++ flat G
  | [], _ => rfl
  | f :: F, G => by simp [flat, flat_append F G]
theorem lev_zero_iff {d : Nat} : ∀ {F : List Nat}, (∀ s ∈ F, s < 2 ^ 63) → (lev F d = 0 ↔ ∀ b ∈ flat F, d.testBit b = false)
  | [], _ => by simp [flat, lev, levAt]
  | f :: F, hF => by
    have ih := lev_zero_iff (d := d) (F := F) (fun s hs => hF s (by simp [hs]))
    rw [lev_cons]
    have hf := hF f (by simp)
    have hfd : f &&& d = 0 ↔ ∀ b ∈ mem f, d.testBit b = false := by
      constructor
      · intro h b hb
        cases hd : d.testBit b with
        | false => rfl
        | true => exact absurd h (and_ne_zero.2 ⟨b, (mem_iff hf).1 hb, hd⟩)
      · intro h
        by_cases e : f &&& d = 0
        · exact e
        · obtain ⟨b, h1, h2⟩ := and_ne_zero.1 e
          rw [h b ((mem_iff hf).2 h1)] at h2
          cases h2
    simp only [flat, List.mem_append]
    constructor
    · intro h b hb
      split at h
      · rename_i h0
        split at h
        · rename_i h1
          rcases hb with hb | hb
          · exact hfd.1 h1 b hb
          · exact ih.1 h0 b hb
        · omega
      · omega
    · intro h
      rw [if_pos (ih.2 fun b hb => h b (.inr hb)), if_pos (hfd.2 fun b hb => h b (.inl hb))]

theorem step_ins {p q a : Nat} (ha : a < 63) (hp : p.testBit a = false) (hq : q.testBit a = false) : stepS (p ||| 2 ^ a) (q ||| 2 ^ a) = stepS p q := by
  have h : ∀ p q : Nat, p.testBit a = false → q.testBit a = false → beforeI (ints (mem (p ||| 2 ^ a))) (ints (mem (q ||| 2 ^ a))) = beforeI (ints (mem p)) (ints (mem q)) := by
    intro p q hp hq
    rw [mem_ins ha hp, mem_ins ha hq]
    by_cases hl : (mem p).length = (mem q).length
    · rw [before_eq (by rw [ints_length, ints_length, ins_length, ins_length, hl]), before_eq (by rw [ints_length, ints_length, hl]), lessI_ins a _ _ hl]
    · rw [before_ne (by rw [ints_length, ints_length, ins_length, ins_length]; omega), before_ne (by rw [ints_length, ints_length]; exact hl), ints_length, ints_length, ints_length, ints_length, ins_length, ins_length]
      simp
  unfold stepS
  rw [h p q hp hq, h q p hq hp]

theorem steps_drop {ds : List Nat} {a : Nat} (ha : a < 63) (hr : (ds.getD a 0).testBit a = true) : ∀ (F G : List Nat), (∀ s ∈ F, s < 2 ^ 63 ∧ s ≠ 0) → (∀ s ∈ G, s < 2 ^ 63 ∧ s ≠ 0) → (flat F).Perm (flat G) →
    stepsS (dropS ds F a) (dropS ds G a) = stepsS F G
  | [], [], _, _, _ => by
    have e : dropS ds [] a = [2 ^ a] := rfl
    have e0 : stepS (2 ^ a) (2 ^ a) = 0 := by unfold stepS beforeI; simp [lessI_irrefl]
    rw [e]
    simp [stepsS, e0]
  | [], g :: G, _, hG, h => by
    exfalso
    have h1 := hG g (by simp)
    have h2 := mem_step (Nat.pos_of_ne_zero h1.2) h1.1
    have := h.length_eq
    simp [flat, h2] at this
  | f :: F, [], hF, _, h => by
    exfalso
    have h1 := hF f (by simp)
    have h2 := mem_step (Nat.pos_of_ne_zero h1.2) h1.1
    have := h.length_eq
    simp [flat, h2] at this
  | f :: F, g :: G, hF, hG, h => by
    have hc : lev (f :: F) (ds.getD a 0) = 0 ↔ lev (g :: G) (ds.getD a 0) = 0 := by
      rw [lev_zero_iff (fun s hs => (hF s hs).1), lev_zero_iff (fun s hs => (hG s hs).1)]
      exact ⟨fun k b hb => k b (h.mem_iff.2 hb), fun k b hb => k b (h.mem_iff.1 hb)⟩
    rw [drop_cons, drop_cons]
    by_cases h0 : lev (f :: F) (ds.getD a 0) = 0
    · rw [if_pos h0, if_pos (hc.1 h0)]
      have no : ∀ (x : Nat) (X : List Nat), lev (x :: X) (ds.getD a 0) = 0 → x.testBit a = false := by
        intro x X hx
        have h1 := lev_high (S := x :: X) (d := ds.getD a 0) (j := 0) (by omega)
        cases hb : x.testBit a with
        | false => rfl
        | true => exact absurd h1 (and_ne_zero.2 ⟨a, hb, hr⟩)
      simp only [stepsS]
      rw [step_ins ha (no f F h0) (no g G (hc.1 h0))]
    · rw [if_neg h0, if_neg (fun e => h0 (hc.2 e))]
      simp only [stepsS]
      by_cases hz : stepS f g = 0
      · rw [if_pos hz, if_pos hz]
        have hfg := step_zero (hF f (by simp)).1 (hG g (by simp)).1 hz
        subst hfg
        exact steps_drop ha hr F G (fun s hs => hF s (by simp [hs])) (fun s hs => hG s (by simp [hs])) ((List.perm_append_left_iff _).1 h)
      · rw [if_neg hz, if_neg hz]
end Go.Proofs.YtopfcpnilblieaaGreatDoor
