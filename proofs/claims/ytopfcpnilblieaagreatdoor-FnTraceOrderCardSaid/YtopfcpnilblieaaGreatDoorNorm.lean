/- plain: the letters that may come first, as masks; a word without the first one of a letter -/
import Derived.Test.YtopfcpnilblieaaGreatDoorLaw3
namespace Go.Proofs.YtopfcpnilblieaaGreatDoor

def fstep (ds : List Nat) (p : Nat × Nat) (a : Nat) : Nat × Nat := (if p.2.testBit a then p.1 else p.1 ||| 2 ^ a, p.2 ||| ds.getD a 0)
def firstsP (ds ws : List Nat) : Nat × Nat := ws.foldl (fstep ds) (0, 0)
theorem firstsP_snoc (ds ws : List Nat) (a : Nat) : firstsP ds (ws ++ [a]) = fstep ds (firstsP ds ws) a := by simp [firstsP]
theorem firstsP_lt {ds : List Nat} (hd : ∀ m ∈ ds, m < 2 ^ 63) : ∀ {ws : List Nat} {p : Nat × Nat}, (∀ a ∈ ws, a < 63) → p.1 < 2 ^ 63 → p.2 < 2 ^ 63 → (ws.foldl (fstep ds) p).1 < 2 ^ 63 ∧ (ws.foldl (fstep ds) p).2 < 2 ^ 63
  | [], p, _, h1, h2 => ⟨h1, h2⟩
  | a :: ws, p, hw, h1, h2 => by
    have ha := hw a (by simp)
    have hg : ds.getD a 0 < 2 ^ 63 := by
      by_cases hi : a < ds.length
      · rw [show ds.getD a 0 = ds[a] by simp [List.getD_eq_getElem?_getD, hi]]; exact hd _ (List.getElem_mem hi)
      · rw [show ds.getD a 0 = 0 by rw [List.getD_eq_getElem?_getD, List.getElem?_eq_none (by omega)]; rfl]; decide
    refine firstsP_lt hd (ws := ws) (p := fstep ds p a) (fun b hb => hw b (by simp [hb])) ?_ ?_
    · unfold fstep; simp only; split
      · exact h1
      · exact Nat.or_lt_two_pow h1 (Nat.pow_lt_pow_right (by decide) ha)
    · exact Nat.or_lt_two_pow h2 hg
theorem firstsP_bit (ds : List Nat) (a : Nat) : ∀ (ws : List Nat) (p : Nat × Nat), (ws.foldl (fstep ds) p).1.testBit a = (p.1.testBit a || (!p.2.testBit a && Tr.isFirst (DD ds) ws a))
  | [], p => by simp [Tr.isFirst]
  | b :: ws, p => by
    rw [List.foldl_cons, firstsP_bit ds a ws]
    have e2 : (fstep ds p b).2.testBit a = (p.2.testBit a || depB ds b a) := by simp [fstep, depB, Nat.testBit_or]
    have e1 : (fstep ds p b).1.testBit a = (p.1.testBit a || (!p.2.testBit b && decide (b = a))) := by
      unfold fstep; simp only
      cases hb : p.2.testBit b with
      | true => simp
      | false => simp [Nat.testBit_or, Nat.testBit_two_pow]
    rw [e1, e2, show Tr.isFirst (DD ds) (b :: ws) a = (b == a || (!DD ds b a && Tr.isFirst (DD ds) ws a)) from rfl, show DD ds b a = (depB ds b a || decide (b = a)) from rfl]
    generalize Tr.isFirst (DD ds) ws a = F
    by_cases hba : b = a
    · subst hba
      cases p.1.testBit b <;> cases p.2.testBit b <;> simp
    · have h1 : (b == a) = false := by simp [hba]
      rw [h1]
      simp only [hba, decide_false, Bool.and_false, Bool.or_false, Bool.false_or]
      generalize depB ds b a = d
      cases p.1.testBit a <;> cases p.2.testBit a <;> cases d <;> simp
theorem firsts_bit (ds ws : List Nat) (a : Nat) : (firstsP ds ws).1.testBit a = Tr.isFirst (DD ds) ws a := by
  have h := firstsP_bit ds a ws (0, 0)
  simpa [firstsP] using h
theorem mem_of_isFirst {D : Nat → Nat → Bool} {a : Nat} : ∀ {ws : List Nat}, Tr.isFirst D ws a = true → a ∈ ws
  | [], h => by simp [Tr.isFirst] at h
  | b :: ws, h => by
    rw [show Tr.isFirst D (b :: ws) a = (b == a || (!D b a && Tr.isFirst D ws a)) from rfl] at h
    by_cases hb : b = a
    · simp [hb]
    · simp [hb] at h
      exact List.mem_cons_of_mem _ (mem_of_isFirst h.2)
theorem firsts_low {ds ws : List Nat} (hd : ∀ m ∈ ds, m < 2 ^ 63) (h63 : ds.length ≤ 63) (hw : ∀ a ∈ ws, a < ds.length) (hne : ws ≠ []) :
    Tr.next (DD ds) ds.length ws = some (low (firstsP ds ws).1) ∧ 0 < (firstsP ds ws).1 ∧ low (firstsP ds ws).1 < ds.length ∧ low (firstsP ds ws).1 ∈ ws := by
  obtain ⟨a, hn, hf⟩ := Tr.next_some (D := DD ds) (N := ds.length) hw hne
  have hlt := (firstsP_lt hd (p := (0, 0)) (ws := ws) (fun a ha => by have := hw a ha; omega) (by decide) (by decide)).1
  have hba := firsts_bit ds ws a
  rw [hf] at hba
  have hpos : 0 < (firstsP ds ws).1 := by
    rcases Nat.eq_zero_or_pos (firstsP ds ws).1 with h | h
    · rw [h] at hba; simp at hba
    · exact h
  obtain ⟨h1, h2, _⟩ := low_bits hpos hlt
  have hb := firsts_bit ds ws (low (firstsP ds ws).1)
  rw [h1] at hb
  have hn' := hn
  unfold Tr.next at hn'
  rw [List.find?_range_eq_some] at hn'
  obtain ⟨p1, p2, p3⟩ := hn'
  have e : a = low (firstsP ds ws).1 := by
    rcases Nat.lt_trichotomy a (low (firstsP ds ws).1) with h | h | h
    · have := h2 a h; rw [hba] at this; cases this
    · exact h
    · have := p3 _ h; rw [← hb] at this; simp at this
  rw [← e]
  exact ⟨hn, hpos, List.mem_range.1 p2, mem_of_isFirst hf⟩

theorem first_index {a : Nat} : ∀ {ws : List Nat}, a ∈ ws → ∃ k, k < ws.length ∧ ws[k]? = some a ∧ (∀ j, j < k → ws[j]? ≠ some a) ∧ ws.eraseIdx k = ws.erase a
  | [], h => by simp at h
  | b :: ws, h => by
    by_cases hb : b = a
    · subst hb
      exact ⟨0, by simp, rfl, fun j hj => absurd hj (Nat.not_lt_zero _), by simp⟩
    · have hm : a ∈ ws := by
        rcases List.mem_cons.1 h with h | h
        · exact absurd h.symm hb
        · exact h
      obtain ⟨k, h1, h2, h3, h4⟩ := first_index hm
      refine ⟨k + 1, by simpa using h1, by simpa using h2, fun j hj => ?_, ?_⟩
      · cases j with
        | zero => simpa using hb
        | succ j => simpa using h3 j (by omega)
      · rw [List.eraseIdx_cons_succ, h4, List.erase_cons_tail (by simpa using hb)]
end Go.Proofs.YtopfcpnilblieaaGreatDoor
