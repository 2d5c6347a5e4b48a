/- the plain law of the order of traces: the two ways to the Foata form -/
import Derived.Test.YtopfcpnilblieaaGreatDoorLaw1
import Derived.Test.YtopfcpnilblieaaGreatDoorSpec8
namespace Go.Proofs.YtopfcpnilblieaaGreatDoor
open Go.RowKit

theorem and_ne_zero {x y : Nat} : x &&& y ≠ 0 ↔ ∃ b, x.testBit b = true ∧ y.testBit b = true := by
  constructor
  · intro h
    obtain ⟨b, hb⟩ := Nat.exists_testBit_of_ne_zero h
    rw [Nat.testBit_and, Bool.and_eq_true] at hb
    exact ⟨b, hb⟩
  · intro ⟨b, h1, h2⟩ e
    have : (x &&& y).testBit b = true := by rw [Nat.testBit_and, h1, h2]; rfl
    rw [e] at this
    simp at this

theorem levAt_low (S : List Nat) (d : Nat) : ∀ m, levAt S d m = 0 ∨ ∃ j, levAt S d m = j + 1 ∧ S.getD j 0 &&& d ≠ 0
  | 0 => .inl rfl
  | m + 1 => by
    unfold levAt
    split
    · exact levAt_low S d m
    · rename_i h; exact .inr ⟨m, rfl, h⟩
theorem levAt_high (S : List Nat) (d : Nat) : ∀ m j, levAt S d m ≤ j → j < m → S.getD j 0 &&& d = 0
  | 0, j, _, h => by omega
  | m + 1, j, h1, h2 => by
    unfold levAt at h1
    split at h1
    · rename_i h
      by_cases e : j = m
      · rw [e]; exact h
      · exact levAt_high S d m j h1 (by omega)
    · omega
theorem lev_high {S : List Nat} {d j : Nat} (h : lev S d ≤ j) : S.getD j 0 &&& d = 0 := by
  by_cases hj : j < S.length
  · exact levAt_high S d _ j h hj
  · simp [List.getD_eq_getElem?_getD, List.getElem?_eq_none (Nat.le_of_not_lt hj)]
theorem lev_le (S : List Nat) (d : Nat) : lev S d ≤ S.length := levAt_le S d _

theorem hAt_low (ds ws hs : List Nat) (i : Nat) : ∀ m, hAt ds ws hs i m = 1 ∨ ∃ k, k < m ∧ depB ds (ws.getD k 0) (ws.getD i 0) = true ∧ hAt ds ws hs i m = hs.getD k 0 + 1
  | 0 => .inl rfl
  | m + 1 => by
    unfold hAt
    split
    · rename_i h
      exact .inr ⟨m, by omega, h.1, rfl⟩
    · rcases hAt_low ds ws hs i m with h | ⟨k, hk, h1, h2⟩
      · exact .inl h
      · exact .inr ⟨k, by omega, h1, h2⟩
theorem hAt_high (ds ws hs : List Nat) (i : Nat) : ∀ m k, k < m → depB ds (ws.getD k 0) (ws.getD i 0) = true → hs.getD k 0 + 1 ≤ hAt ds ws hs i m
  | 0, k, h, _ => by omega
  | m + 1, k, h, hd => by
    unfold hAt
    by_cases e : k = m
    · subst e
      split
      · exact Nat.le_refl _
      · rename_i hn
        apply Nat.le_of_not_lt
        intro hlt
        exact hn ⟨hd, hlt⟩
    · have := hAt_high ds ws hs i m k (by omega) hd
      split
      · rename_i hn; omega
      · exact this

theorem getD_append_left' {xs ys : List Nat} {i : Nat} (h : i < xs.length) : (xs ++ ys).getD i 0 = xs.getD i 0 := by
  simp [List.getD_eq_getElem?_getD, List.getElem?_append_left h]
theorem getD_last {xs : List Nat} {y : Nat} : (xs ++ [y]).getD xs.length 0 = y := by simp [List.getD_eq_getElem?_getD]
theorem hts_getD (ds ws : List Nat) : ∀ n i, i < n → (hts ds ws n).getD i 0 = hAt ds ws (hts ds ws i) i i
  | 0, i, h => by omega
  | n + 1, i, h => by
    have hl := hts_length ds ws n
    by_cases e : i = n
    · subst e
      show (hts ds ws i ++ [_]).getD i 0 = _
      have := getD_last (xs := hts ds ws i) (y := hAt ds ws (hts ds ws i) i i)
      rwa [hl] at this
    · rw [← hts_getD ds ws n i (by omega)]
      exact getD_append_left' (by omega)

theorem putAt_bit {S : List Nat} {L a : Nat} (hL : L ≤ S.length) (l b : Nat) : ((putAt S L a).getD l 0).testBit b = ((S.getD l 0).testBit b || (decide (l = L) && decide (a = b))) := by
  unfold putAt
  by_cases h : L = S.length
  · rw [if_pos h]
    by_cases hl : l < S.length
    · rw [getD_append_left' hl]
      have : ¬ l = L := by omega
      simp [this]
    · by_cases hl2 : l = S.length
      · subst hl2
        rw [getD_last, Nat.testBit_two_pow]
        simp [List.getD_eq_getElem?_getD, h]
      · have h1 : (S ++ [2 ^ a]).getD l 0 = 0 := by
          simp only [List.getD_eq_getElem?_getD]
          rw [List.getElem?_eq_none (by simp; omega)]; rfl
        have h2 : S.getD l 0 = 0 := by
          simp only [List.getD_eq_getElem?_getD]
          rw [List.getElem?_eq_none (by omega)]; rfl
        have : ¬ l = L := by omega
        rw [h1, h2]; simp [this]
  · rw [if_neg h]
    by_cases hl : l = L
    · subst hl
      have : (S.set l (S.getD l 0 ||| 2 ^ a)).getD l 0 = S.getD l 0 ||| 2 ^ a := by
        simp only [List.getD_eq_getElem?_getD]
        rw [List.getElem?_set_self (by omega)]; rfl
      rw [this, Nat.testBit_or, Nat.testBit_two_pow]
      simp
    · have : (S.set L (S.getD L 0 ||| 2 ^ a)).getD l 0 = S.getD l 0 := by
        simp only [List.getD_eq_getElem?_getD]
        rw [List.getElem?_set_ne (by omega)]
      rw [this]; simp [hl]
theorem putH_put {S : List Nat} {L a : Nat} (hL : L ≤ S.length) : putH S (L + 1) a = putAt S L a := by
  unfold putH putAt
  by_cases h : L = S.length
  · subst h
    rw [if_pos rfl]
    have e : S.length + 1 - S.length = 1 := by omega
    rw [e]
    simp [List.getD_eq_getElem?_getD]
  · rw [if_neg h]
    have e : L + 1 - S.length = 0 := by omega
    rw [e]
    simp

/-- The letters depend on each other alike. -/
structure Dep (ds : List Nat) : Prop where
  refl : ∀ a, a < ds.length → (ds.getD a 0).testBit a = true
  symm : ∀ a b, a < ds.length → b < ds.length → (ds.getD a 0).testBit b = (ds.getD b 0).testBit a

structure Inv (ds ws : List Nat) (i : Nat) (S : List Nat) : Prop where
  bit : ∀ l b, (S.getD l 0).testBit b = true ↔ ∃ k, k < i ∧ (hts ds ws i).getD k 0 = l + 1 ∧ ws.getD k 0 = b
theorem lev_eq {ds ws : List Nat} {i : Nat} {S : List Nat} (hD : Dep ds) (hw : ∀ a ∈ ws, a < ds.length) (hi : i < ws.length) (hI : Inv ds ws i S) : lev S (ds.getD (ws.getD i 0) 0) + 1 = hAt ds ws (hts ds ws i) i i := by
  have hlt : ∀ k, k < ws.length → ws.getD k 0 < ds.length := fun k hk => by rw [getD_at hk]; exact hw _ (List.getElem_mem hk)
  apply Nat.le_antisymm
  · rcases levAt_low S (ds.getD (ws.getD i 0) 0) S.length with h | ⟨j, h, hne⟩
    · have := hAt_pos ds ws (hts ds ws i) i i
      unfold lev; omega
    · obtain ⟨b, h1, h2⟩ := and_ne_zero.1 hne
      obtain ⟨k, hk, h3, h4⟩ := (hI.bit j b).1 h1
      have hd : depB ds (ws.getD k 0) (ws.getD i 0) = true := by
        unfold depB
        rw [hD.symm _ _ (hlt k (by omega)) (hlt i hi), h4]; exact h2
      have := hAt_high ds ws (hts ds ws i) i i k hk hd
      unfold lev; omega
  · rcases hAt_low ds ws (hts ds ws i) i i with h | ⟨k, hk, hd, h⟩
    · omega
    · rw [h]
      have hp : 1 ≤ (hts ds ws i).getD k 0 := by
        have hkl : k < (hts ds ws i).length := by rw [hts_length]; exact hk
        rw [getD_at hkl]; exact (hts_le ds ws i _ (List.getElem_mem hkl)).1
      obtain ⟨j, hj⟩ : ∃ j, (hts ds ws i).getD k 0 = j + 1 := ⟨(hts ds ws i).getD k 0 - 1, by omega⟩
      have hb := (hI.bit j (ws.getD k 0)).2 ⟨k, hk, hj, rfl⟩
      have hne : S.getD j 0 &&& ds.getD (ws.getD i 0) 0 ≠ 0 := and_ne_zero.2 ⟨ws.getD k 0, hb, by
        rw [← hD.symm _ _ (hlt k (by omega)) (hlt i hi)]; exact hd⟩
      have : j < lev S (ds.getD (ws.getD i 0) 0) := by
        apply Nat.lt_of_not_le
        intro hle
        exact hne (lev_high hle)
      omega

theorem foata_inv {ds ws : List Nat} (hD : Dep ds) (hw : ∀ a ∈ ws, a < ds.length) : ∀ i, i ≤ ws.length → Inv ds ws i (foataL ds (ws.take i)) ∧ foataL ds (ws.take i) = foataH ds ws i
  | 0, _ => by
    refine ⟨⟨fun l b => ?_⟩, by simp [foataL, foataH]⟩
    simp [foataL, List.getD_eq_getElem?_getD]
  | i + 1, hi => by
    obtain ⟨hI, he⟩ := foata_inv hD hw i (by omega)
    have hlt : i < ws.length := by omega
    have hs := foata_snoc ds ws i hlt
    have hlv := lev_eq hD hw hlt hI
    have hle := lev_le (foataL ds (ws.take i)) (ds.getD (ws.getD i 0) 0)
    have hga := getD_at hlt
    have hgh := hts_getD ds ws ws.length i hlt
    rw [hs]
    unfold dropS
    rw [← hga]
    constructor
    · constructor
      intro l b
      rw [putAt_bit hle, Bool.or_eq_true, hI.bit]
      have hl := hts_length ds ws i
      have hsx : hts ds ws (i + 1) = hts ds ws i ++ [hAt ds ws (hts ds ws i) i i] := rfl
      rw [hsx]
      constructor
      · rintro (⟨k, hk, h1, h2⟩ | h)
        · exact ⟨k, by omega, by rw [getD_append_left' (by omega)]; exact h1, h2⟩
        · simp only [Bool.and_eq_true, decide_eq_true_eq] at h
          refine ⟨i, by omega, ?_, h.2⟩
          have := getD_last (xs := hts ds ws i) (y := hAt ds ws (hts ds ws i) i i)
          rw [hl] at this
          rw [this]; omega
      · rintro ⟨k, hk, h1, h2⟩
        by_cases e : k = i
        · subst e
          right
          have := getD_last (xs := hts ds ws k) (y := hAt ds ws (hts ds ws k) k k)
          rw [hl] at this
          rw [this] at h1
          simp only [Bool.and_eq_true, decide_eq_true_eq]
          exact ⟨by omega, h2⟩
        · left
          rw [getD_append_left' (by omega)] at h1
          exact ⟨k, by omega, h1, h2⟩
    · show _ = putH (foataH ds ws i) ((hts ds ws ws.length).getD i 0) (ws.getD i 0)
      rw [hgh, ← hlv, ← he, putH_put hle]
theorem foata_eq {ds ws : List Nat} (hD : Dep ds) (hw : ∀ a ∈ ws, a < ds.length) : foataL ds ws = foataH ds ws ws.length := by
  have := (foata_inv hD hw ws.length (Nat.le_refl _)).2
  rwa [List.take_length] at this

/-! ### How many letters -/
theorem countP_more {p : Nat → Bool} {a : Nat} (hp : p a = false) : ∀ {l : List Nat}, l.Nodup → a ∈ l → l.countP (fun i => p i || decide (a = i)) = l.countP p + 1
  | [], _, h => by simp at h
  | x :: l, hn, h => by
    have hn' := List.nodup_cons.1 hn
    by_cases e : a = x
    · subst e
      have h1 : l.countP (fun i => p i || decide (a = i)) = l.countP p := by
        apply List.countP_congr
        intro y hy
        have : ¬ a = y := fun e => hn'.1 (e ▸ hy)
        simp [this]
      rw [List.countP_cons, List.countP_cons, h1]
      simp [hp]
    · have hm : a ∈ l := by simpa [e] using h
      have ih := countP_more hp hn'.2 hm
      rw [List.countP_cons, List.countP_cons, ih]
      simp [e]; omega
theorem mem_or {s a : Nat} (ha : a < 63) (h : s.testBit a = false) : (mem (s ||| 2 ^ a)).length = (mem s).length + 1 := by
  unfold mem
  rw [← List.countP_eq_length_filter, ← List.countP_eq_length_filter]
  have := countP_more (p := fun i => s.testBit i) h List.nodup_range (List.mem_range.2 ha)
  rw [← this]
  apply List.countP_congr
  intro i _
  rw [Nat.testBit_or, Nat.testBit_two_pow]
theorem tot_append : ∀ (S : List Nat) (x : Nat), tot (S ++ [x]) = tot S + (mem x).length
  | [], x => by simp [tot]
  | s :: S, x => by
    have := tot_append S x
    show (mem s).length + tot (S ++ [x]) = (mem s).length + tot S + _
    omega
theorem tot_set : ∀ (S : List Nat) (i x : Nat), i < S.length → tot (S.set i x) + (mem (S.getD i 0)).length = tot S + (mem x).length
  | [], i, x, h => by simp at h
  | s :: S, 0, x, _ => by simp [tot]; omega
  | s :: S, i + 1, x, h => by
    have := tot_set S i x (by simpa using h)
    show (mem s).length + tot (S.set i x) + (mem (S.getD i 0)).length = (mem s).length + tot S + (mem x).length
    omega
theorem tot_putAt {S : List Nat} {L a : Nat} (hL : L ≤ S.length) (ha : a < 63) (h : (S.getD L 0).testBit a = false) : tot (putAt S L a) = tot S + 1 := by
  unfold putAt
  split
  · rw [tot_append]
    have := mem_or (s := 0) ha (by simp)
    rw [Nat.zero_or, mem_zero] at this
    rw [this]; rfl
  · have h1 := tot_set S L (S.getD L 0 ||| 2 ^ a) (by omega)
    rw [mem_or ha h] at h1
    omega
theorem putAt_ne {S : List Nat} {L a : Nat} (hS : ∀ s ∈ S, s ≠ 0) : ∀ s ∈ putAt S L a, s ≠ 0 := by
  intro s hs
  unfold putAt at hs
  split at hs
  · rcases List.mem_append.1 hs with h | h
    · exact hS s h
    · rw [List.mem_singleton.1 h]; exact Nat.ne_of_gt (Nat.two_pow_pos _)
  · rcases List.mem_or_eq_of_mem_set hs with h | h
    · exact hS s h
    · rw [h]
      intro e
      have : (S.getD L 0 ||| 2 ^ a).testBit a = true := by rw [Nat.testBit_or, Nat.testBit_two_pow]; simp
      rw [e] at this
      simp at this
theorem drop_tot {ds S : List Nat} {a : Nat} (hD : Dep ds) (ha : a < ds.length) (h63 : ds.length ≤ 63) : tot (dropS ds S a) = tot S + 1 := by
  refine tot_putAt (lev_le _ _) (by omega) ?_
  have h := lev_high (S := S) (d := ds.getD a 0) (Nat.le_refl _)
  cases hb : (S.getD (lev S (ds.getD a 0)) 0).testBit a with
  | false => rfl
  | true => exact absurd h (and_ne_zero.2 ⟨a, hb, hD.refl a ha⟩)
theorem foata_tot {ds : List Nat} (hD : Dep ds) (h63 : ds.length ≤ 63) : ∀ (ws S : List Nat), (∀ a ∈ ws, a < ds.length) → (∀ s ∈ S, s ≠ 0) → tot (ws.foldl (dropS ds) S) = tot S + ws.length ∧ ∀ s ∈ ws.foldl (dropS ds) S, s ≠ 0
  | [], S, _, hS => ⟨rfl, hS⟩
  | a :: ws, S, hw, hS => by
    have ha := hw a (by simp)
    have := foata_tot hD h63 ws (dropS ds S a) (fun b hb => hw b (by simp [hb])) (putAt_ne hS)
    rw [drop_tot hD ha h63] at this
    exact ⟨by rw [List.foldl_cons, this.1, List.length_cons]; omega, this.2⟩

theorem alpha_dep {n : Int} {ds : List Int} (h : Alpha n ds) : Dep (toN ds) := by
  have hl : ∀ m ∈ toN ds, m < 2 ^ (toN ds).length := fun m hm => by rw [toN_length]; exact h.lt m hm
  have hr : ∀ i, i < (toN ds).length → rowS (toN ds) i = true := fun i hi => by
    rw [← rowS_eq hl hi]
    have := h.ok
    unfold alphaB at this
    exact List.all_eq_true.1 this i (List.mem_range.2 hi)
  constructor
  · intro a ha
    have := hr a ha
    unfold rowS at this
    exact (Bool.and_eq_true_iff.1 this).1
  · intro a b ha hb
    have := hr a ha
    unfold rowS at this
    have := List.all_eq_true.1 (Bool.and_eq_true_iff.1 this).2 b (List.mem_range.2 hb)
    simpa using this

theorem cmp_eq {ds us vs : List Nat} (hD : Dep ds) (h8 : ds.length ≤ 8) (hu : ∀ a ∈ us, a < ds.length) (hv : ∀ a ∈ vs, a < ds.length) : cmpTr ds us vs = cmpS ds us vs := by
  unfold cmpTr cmpS
  by_cases hl : us.length = vs.length
  · rw [if_pos hl, if_pos hl, sortI_let us (fun a ha => Nat.lt_of_lt_of_le (hu a ha) h8), sortI_let vs (fun a ha => Nat.lt_of_lt_of_le (hv a ha) h8), lexBy_ord, ← foata_eq hD hu, ← foata_eq hD hv]
    have hlt : ∀ ws : List Nat, (∀ a ∈ ws, a < ds.length) → ∀ s ∈ foataL ds ws, s < 2 ^ 63 := fun ws hw => foata_lt ws [] (fun a ha => by have := hw a ha; omega) (by simp)
    have tu := foata_tot hD (by omega) us [] hu (by simp)
    have tv := foata_tot hD (by omega) vs [] hv (by simp)
    have hs := lexSt_steps (foataL ds us) (foataL ds vs) (fun s hs => ⟨hlt us hu s hs, tu.2 s hs⟩) (fun s hs => ⟨hlt vs hv s hs, tv.2 s hs⟩) (by unfold foataL; rw [tu.1, tv.1, hl])
    rw [hs]
  · rw [if_neg hl, if_neg hl]
    unfold cmpI
    by_cases h : us.length < vs.length
    · rw [if_pos (by omega), if_pos h]
    · rw [if_neg (by omega), if_pos (by omega), if_neg h]
theorem cmpRes_eq (n : Int) (ds us vs : List Int) : cmpRes n ds us vs = cmpResS n ds us vs := by
  unfold cmpRes cmpResS
  split
  · rename_i hz
    obtain ⟨ha, hw⟩ := checkB_zero.1 hz
    have hA := isAlpha_iff.1 ha
    exact cmp_eq (alpha_dep hA) (by rw [toN_length]; exact hA.le) (word_toN hA (hw us (by simp))).2.1 (word_toN hA (hw vs (by simp))).2.1
  · rfl
end Go.Proofs.YtopfcpnilblieaaGreatDoor
