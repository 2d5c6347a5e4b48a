/- plain: what the law of the order of traces says -/
import Derived.Test.YtopfcpnilblieaaGreatDoorLaw4
import Derived.Test.YtopfcpnilblieaaGreatDoorSame3
namespace Go.Proofs.YtopfcpnilblieaaGreatDoor
open Go.RowKit

theorem good_of {n : Int} {ds : List Int} (h : isAlpha n ds = true) : Good (toN ds) := by
  have hA := isAlpha_iff.1 h
  exact ⟨alpha_dep hA, fun m hm => by rw [toN_length]; exact hA.lt m hm, by rw [toN_length]; exact hA.le⟩
theorem toN_append (xs ys : List Int) : toN (xs ++ ys) = toN xs ++ toN ys := by simp [toN]
theorem checkB_two {n : Int} {ds us vs : List Int} : checkB n ds [us, vs] = 0 ↔ isAlpha n ds = true ∧ isWordB n us = true ∧ isWordB n vs = true := by
  rw [checkB_zero]
  simp
theorem cmpRes_zero {n : Int} {ds us vs : List Int} (h : checkB n ds [us, vs] = 0) : cmpRes n ds us vs = cmpS (toN ds) (toN us) (toN vs) := by
  rw [cmpRes_eq]; exact if_pos h
theorem cmpRes_bad {n : Int} {ds us vs : List Int} (h : checkB n ds [us, vs] ≠ 0) : cmpRes n ds us vs = 0 := if_neg h

structure OrderLaw (n : Int) (ds us vs : List Int) (o : Int) : Prop where
  back : checkB n ds [vs, us] = 0 ∧ cmpRes n ds vs us = -o
  same : sameRes n ds us vs = decide (o = 0)
  range : o = -1 ∨ o = 0 ∨ o = 1
  app : ∀ ts : List Int, us.length + ts.length ≤ 24 → vs.length + ts.length ≤ 24 → (∀ x ∈ ts, 0 ≤ x ∧ x < n) →
    checkB n ds [us ++ ts, vs ++ ts] = 0 ∧ checkB n ds [us, us ++ ts] = 0 ∧ cmpRes n ds (us ++ ts) (vs ++ ts) = o ∧ cmpRes n ds us (us ++ ts) = if ts.length = 0 then 0 else -1
theorem order_law {n : Int} {ds us vs : List Int} (h : checkB n ds [us, vs] = 0) : OrderLaw n ds us vs (cmpRes n ds us vs) := by
  obtain ⟨ha, hu, hv⟩ := checkB_two.1 h
  have hA := isAlpha_iff.1 ha
  have hG := good_of ha
  obtain ⟨_, u2, u3⟩ := word_toN hA hu
  obtain ⟨_, v2, v3⟩ := word_toN hA hv
  have hb : checkB n ds [vs, us] = 0 := checkB_two.2 ⟨ha, hv, hu⟩
  have hz := cmpS_zero hG u2 v2
  have hr := cmpS_range hG u2 v2
  refine ⟨⟨hb, by rw [cmpRes_zero h, cmpRes_zero hb, cmpS_anti hG u2 v2]⟩, ?_, ?_, ?_⟩
  · rw [cmpRes_zero h]
    show (if checkB n ds [us, vs] = 0 then _ else _) = _
    rw [if_pos h]
    have hN := Tr.normal_eq_iff (D := DD (toN ds)) (DD_refl _) (DD_symm hG.dep hG.small) (N := (toN ds).length) (n := max (toN us).length (toN vs).length) u2 v2 (Nat.le_max_left _ _) (Nat.le_max_right _ _)
    have e : NF (toN ds) (toN us) = NF (toN ds) (toN vs) ↔ cmpS (toN ds) (toN us) (toN vs) = 0 := by
      rw [hz, ← hN]
      constructor
      · intro e
        have h1 := Tr.same_normal (D := DD (toN ds)) (DD_refl _) (DD_symm hG.dep hG.small) (N := (toN ds).length) _ (toN us) u2 (Nat.le_refl _)
        have h2 := Tr.same_normal (D := DD (toN ds)) (DD_refl _) (DD_symm hG.dep hG.small) (N := (toN ds).length) _ (toN vs) v2 (Nat.le_refl _)
        exact hN.2 (h1.trans ((show Tr.normal (DD (toN ds)) (toN ds).length (toN us).length (toN us) = Tr.normal (DD (toN ds)) (toN ds).length (toN vs).length (toN vs) from e) ▸ h2.symm))
      · intro e
        have hs := hN.1 e
        have hl := Tr.Same.length (DD_refl _) (DD_symm hG.dep hG.small) hs
        unfold NF
        rw [hl]
        exact Tr.normal_same (DD_refl _) (DD_symm hG.dep hG.small) _ _ hs
    exact decide_eq_decide.2 e
  · rw [cmpRes_zero h]; omega
  · intro ts h1 h2 h3
    have hts : ∀ a ∈ toN ts, a < (toN ds).length := fun a hm => by
      obtain ⟨x, hx, rfl⟩ := List.mem_map.1 hm
      have h4 := h3 x hx
      have h5 := hA.len
      rw [toN_length]; omega
    obtain ⟨l1, m1⟩ := isWord_iff.1 hu
    obtain ⟨l2, m2⟩ := isWord_iff.1 hv
    have w1 : isWordB n (us ++ ts) = true := isWord_iff.2 ⟨by simp; omega, fun x hx => by rcases List.mem_append.1 hx with h | h; exact m1 x h; exact h3 x h⟩
    have w2 : isWordB n (vs ++ ts) = true := isWord_iff.2 ⟨by simp; omega, fun x hx => by rcases List.mem_append.1 hx with h | h; exact m2 x h; exact h3 x h⟩
    have c1 : checkB n ds [us ++ ts, vs ++ ts] = 0 := checkB_two.2 ⟨ha, w1, w2⟩
    have c2 : checkB n ds [us, us ++ ts] = 0 := checkB_two.2 ⟨ha, hu, w1⟩
    refine ⟨c1, c2, ?_, ?_⟩
    · rw [cmpRes_zero c1, cmpRes_zero h, toN_append, toN_append]
      exact cmpS_app hG _ _ _ u2 v2 hts
    · rw [cmpRes_zero c2, toN_append, cmpS_prefix hG u2]
      cases ts <;> simp [toN]
end Go.Proofs.YtopfcpnilblieaaGreatDoor
