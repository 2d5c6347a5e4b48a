/- the library's functions on lists of numbers: Equal, Index, Grow, Concat -/
import Derived.Test.YtopfcpnilblieaaGreatDoorApp
import Derived.Test.YtopfcpnilblieaaGreatDoorFuncs
import Derived.Test.YtopfcpnilblieaaGreatDoorWord
import Derived.Lib.AppendZerosOnto
import Derived.Deep.QuietTactic
import Derived.BigQuiet
namespace Go.Proofs.YtopfcpnilblieaaGreatDoor
open Go.RowKit

theorem nums_nil' {xs : List Int} (h : nums xs = []) : xs = [] := by simpa [nums] using h
theorem Equal_c (v1 v2 : Value) (xs ys : List Int) (w : World) (B : Nat) (h1 : Rd w B v1 (nums xs)) (h2 : Rd w B v2 (nums ys)) :
    Calls Tryz.prog 53 #[v1, v2] w fun e w' => e = .returned (.bool (decide (xs = ys))) ∧ ∃ q, w' = w.drewN q := by
  obtain ⟨A1, c1, rfl, hl1, hm1, HC1⟩ := h1.cells
  obtain ⟨A2, c2, rfl, hl2, hm2, HC2⟩ := h2.cells
  simp only [nums_length] at *
  clear h1 h2
  by_cases hl : xs.length = ys.length
  · have hne : ((xs.length : Int) != (ys.length : Int)) = false := by simp [hl]
    have HL := Lib.hid hl
    clear hl
    go_enter Tryz.func53, Tryz.ntmps53
    go_wp2
    go_loopw [13] (fun s wr => ∃ k q : Nat, k ≤ xs.length ∧ s = .int .i64 k ∧ wr = w.drewN q ∧ Hid (xs.take k = ys.take k)) (fun s _ => xs.length - (intOf s).toNat)
    case atStart => exact ⟨0, 0, Nat.zero_le _, rfl, rfl, by simp [Hid]⟩
    case round =>
      obtain ⟨k, q, hk1, rfl, rfl, HE⟩ := hrel
      by_cases hlt : k < xs.length
      · have hlt2 : k < ys.length := by rw [← HL.out]; exact hlt
        obtain ⟨b1, o1, rfl, _, _, hc1⟩ := HC1.at_ k _ (nums_get hlt)
        obtain ⟨b2, o2, rfl, _, _, hc2⟩ := HC2.at_ k _ (nums_get hlt2)
        have ex : Hid (xs.take (k + 1) = xs.take k ++ [xs[k]]) := (List.take_append_getElem hlt).symm
        have ey : Hid (ys.take (k + 1) = ys.take k ++ [ys[k]]) := (List.take_append_getElem hlt2).symm
        have hlt3 : (k : Int) < (ys.length : Int) := by omega
        have hX : Hid (xs[k] ≠ ys[k] → xs ≠ ys) := fun h e => by subst e; exact h rfl
        generalize xs[k] = x at hc1 ex hX
        generalize ys[k] = y at hc2 ey hX
        by_cases hxy : x = y
        · subst hxy
          have hne2 : ((x : Int) != x) = false := by simp
          go_wp2
          go_quiet (fail)
          go_wp2
          go_roundw
          case rel => exact ⟨k + 1, _, by omega, by go_num, rfl, by rw [Hid, ex.out, ey.out, HE.out]⟩
          case measure => simp [intOf]; omega
        · have hne2 : ((x : Int) != y) = true := by simp [hxy]
          have hX2 := Lib.hid (hX.out hxy)
          clear hxy
          go_wp2
          go_quiet (fail)
          go_wp2
          go_ret
          exact ⟨ret_b (by have := hX2.out; simp [this]), _, World.drewN_drewN _ _ _⟩
      · have hke : k = xs.length := by omega
        subst hke
        have e1 : Hid (xs = ys) := by
          have h := HE.out
          rw [List.take_length, HL.out, List.take_length] at h
          exact h
        go_wp2
        go_ret
        exact ⟨ret_b (by simp [e1.out]), _, rfl⟩
  · have hne : ((xs.length : Int) != (ys.length : Int)) = true := by simp; omega
    have hX : Hid (xs ≠ ys) := fun e => hl (by rw [e])
    clear hl
    go_enter Tryz.func53, Tryz.ntmps53
    go_wp2
    go_ret
    exact ⟨ret_b (by have := hX.out; simp [this]), 0, rfl⟩

theorem Index_c (v : Value) (xs : List Int) (x : Int) (w : World) (B : Nat) (h1 : Rd w B v (nums xs)) :
    Calls Tryz.prog 83 #[v, .int .i64 x] w fun e w' => e = .returned (.int .i64 (firstAt (xs.map fun y => x == y))) ∧ w = w' := by
  obtain ⟨A1, c1, rfl, hl1, hm1, HC1⟩ := h1.cells
  simp only [nums_length] at *
  clear h1
  go_enter Tryz.func83, Tryz.ntmps83
  go_wp2
  go_loop [8] (fun s => ∃ k : Nat, k ≤ xs.length ∧ s = .int .i64 k ∧ Hid (∀ j, j < k → (xs.map fun y => x == y)[j]? = some false)) (fun s => xs.length - (intOf s).toNat)
  case atStart => exact ⟨0, Nat.zero_le _, rfl, fun j hj => absurd hj (Nat.not_lt_zero _)⟩
  case round =>
    obtain ⟨k, hk1, rfl, HE⟩ := hrel
    by_cases hlt : k < xs.length
    · obtain ⟨b1, o1, rfl, _, _, hc1⟩ := HC1.at_ k _ (nums_get hlt)
      have ex : Hid ((xs.map fun y => x == y)[k]? = some (x == xs[k])) := by simp [Hid, hlt]
      generalize xs[k] = y at hc1 ex
      cases hxy : (x == y) with
      | false =>
        go_wp2
        go_round
        case rel =>
          refine ⟨k + 1, by omega, by go_num, fun j hj => ?_⟩
          by_cases e : j = k
          · subst e; rw [ex.out, hxy]
          · exact HE.out j (by omega)
        case measure => simp [intOf]; omega
      | true =>
        have E : Hid (firstAt (xs.map fun y => x == y) = (k : Int)) := firstAt_hit HE.out (by rw [ex.out, hxy])
        go_wp2
        go_ret
        exact ⟨ret_i E.out.symm, rfl⟩
    · have hke : k = xs.length := by omega
      subst hke
      have E : Hid (firstAt (xs.map fun y => x == y) = -1) := firstAt_miss (fun j hj => HE.out j (by simpa using hj))
      go_wp2
      go_ret
      exact ⟨ret_i E.out.symm, rfl⟩

set_option maxRecDepth 100000 in
theorem Grow_c (n : Nat) (hn : n ≤ 1000000) (w : World) : Calls Tryz.prog 97 #[.slice none 0 0, .int .i64 (n : Int)] w (OutRow 2 [] w) := by
  by_cases h0 : n = 0
  · subst h0
    go_enter Tryz.func97, Tryz.ntmps97
    go_wp2
    go_ret
    exact ⟨_, rfl, Own.nil _ _ _, Below.refl _ _⟩
  · have hb8 : (Tryz.t2).bytes = 8 := by kernel_rfl
    have hfit : Builtin.nextslicecap n 0 * 8 ≤ 281474976710656 := growslice_fits (by omega) (by omega)
    obtain ⟨G, hG⟩ : ∃ G, G = grownCap w n 0 2 := ⟨_, rfl⟩
    have hGn : n ≤ G := by rw [hG]; exact grownCap_ge w _ _ _
    have hGm : G ≤ 9223372036854775807 := by
      have := grownCap_le_maxLen w n 0 2 (by unfold maxLen; omega)
      rw [← hG] at this
      unfold maxLen at this
      exact this
    have hgc : (Question.appendCap n 0 2).cut (w.tape w.drawn (Question.appendCap n 0 2)) = G := by rw [hG]; rfl
    have hd : (0 : Int) < (n : Int) := by omega
    have hd0 : ¬ ((n : Int) = 0) := by omega
    have hf2 : ¬ (281474976710656 < Builtin.nextslicecap n 0 * 8) := by omega
    have hG0 : (0 : Int) ≤ (G : Int) := by omega
    clear hG
    go_enter Tryz.func97, Tryz.ntmps97
    go_wp2
    go_ret
    refine ⟨_, rfl, ⟨by simp, .inr ⟨w.heap.size, G, _, rfl, Nat.le_refl _, heap_alloc_new w.drew _, Nat.zero_le _, by simp only [maxLen]; omega, ?_, by simp⟩⟩, (Below.refl _ w).drew.alloc (Nat.le_refl _) _⟩
    simp [Builtin.zeroCells]; omega

def lenSum : List (List Int) → Nat
  | [] => 0
  | xs :: xss => xs.length + lenSum xss
theorem lenSum_snoc (xss : List (List Int)) (xs : List Int) : lenSum (xss ++ [xs]) = lenSum xss + xs.length := by
  induction xss with
  | nil => simp [lenSum]
  | cons y ys ih => simp only [List.cons_append, lenSum, ih]; omega
theorem lenSum_append (xss yss : List (List Int)) : lenSum (xss ++ yss) = lenSum xss + lenSum yss := by
  induction xss with
  | nil => simp [lenSum]
  | cons y ys ih => simp only [List.cons_append, lenSum, ih]; omega
theorem lenSum_flat (xss : List (List Int)) : lenSum xss = xss.flatten.length := by
  induction xss with
  | nil => rfl
  | cons y ys ih => simp [lenSum, ih]
theorem lenSum_take (xss : List (List Int)) (k : Nat) : lenSum (xss.take k) ≤ lenSum xss := by
  have h := lenSum_append (xss.take k) (xss.drop k)
  rw [List.take_append_drop] at h; omega
set_option maxRecDepth 100000 in
theorem Concat_c (v : Value) (xss : List (List Int)) (w : World) (hl : lenSum xss ≤ 1000000) (hv : RdS w w.heap.size v xss) :
    Calls Tryz.prog 84 #[v] w (OutRow 2 (nums xss.flatten) w) := by
  obtain ⟨vs, hvs, hlen, hin⟩ := hv.ex
  obtain ⟨A, c, rfl, h1, h2, HC⟩ := hvs.cells
  have HIN := Lib.hid hin
  have HL := Lib.hid hlen
  clear hvs hv hin
  obtain ⟨m, hm⟩ : ∃ m, m = vs.length := ⟨_, rfl⟩
  rw [← hm] at h1 h2 ⊢
  have HM := Lib.hid hm
  clear hlen hm
  have hget : ∀ k, k < m → ∃ (u : Value) (xs : List Int), vs[k]? = some u ∧ xss[k]? = some xs ∧ Rd w w.heap.size u (nums xs) ∧ xss.take (k + 1) = xss.take k ++ [xs] := fun k hk => by
    have hk1 : k < vs.length := by rw [← HM.out]; exact hk
    have hk2 : k < xss.length := by rw [← HL.out]; exact hk1
    have e1 : vs[k]? = some vs[k] := List.getElem?_eq_getElem hk1
    have e2 : xss[k]? = some xss[k] := List.getElem?_eq_getElem hk2
    exact ⟨_, _, e1, e2, HIN.out k _ _ e1 e2, (List.take_append_getElem hk2).symm⟩
  have HG := Lib.hid hget
  clear hget
  go_enter Tryz.func84, Tryz.ntmps84
  go_wp2
  go_loop [3, 11] (fun s3 s11 => ∃ k : Nat, k ≤ m ∧ s11 = .int .i64 (k : Int) ∧ s3 = .int .i64 ((lenSum (xss.take k) : Nat) : Int)) (fun _ s11 => m - (intOf s11).toNat)
  case atStart => exact ⟨0, Nat.zero_le _, rfl, by simp [lenSum]⟩
  case round =>
    obtain ⟨k, hk, rfl, rfl⟩ := hrel
    have hs := lenSum_take xss k
    by_cases hlt : k < m
    · obtain ⟨u, xs, hu, hx, hr, ht⟩ := HG.out k hlt
      obtain ⟨b, o, rfl, _, _, hc⟩ := HC.at_ k _ hu
      obtain ⟨Au, cu, rfl, _, _, _⟩ := hr.cells
      have hs2 := lenSum_take xss (k + 1)
      have hE : lenSum (xss.take (k + 1)) = lenSum (xss.take k) + xs.length := by rw [ht, lenSum_snoc]
      rw [hE] at hs2
      have HE := Lib.hid hE
      have hlt2 : (k : Int) < (m : Int) := by omega
      rw [nums_length] at hc
      clear hE ht hr hu hx
      generalize lenSum (xss.take k) = S at hs hs2 HE ⊢
      have hneg : ¬ ((S : Int) + (xs.length : Int) < 0) := by omega
      go_wp2
      go_round
      case rel => exact ⟨k + 1, by omega, by go_num, by rw [HE.out]; go_num⟩
      case measure => simp [intOf]; omega
    · have hke : k = m := by omega
      subst hke
      have hT : xss.take k = xss := by rw [HM.out, HL.out]; exact List.take_length
      rw [hT] at hs ⊢
      have cg := Grow_c (lenSum xss) hl w
      have HT := Lib.hid hT
      clear hT
      generalize hS : lenSum xss = S at cg hl hs ⊢
      have HS := Lib.hid hS
      clear hS
      go_wp2_with fail
      refine cg.mono ?_
      rintro e w1 ⟨v1, rfl, HO1, HB1⟩
      have HO := Lib.hid HO1
      have HB := Lib.hid HB1
      clear cg HO1 HB1
      go_wp2
      go_loopw [6, 27] (fun s6 s27 wr => ∃ i : Nat, i ≤ k ∧ s27 = .int .i64 (i : Int) ∧ Own wr w.heap.size 2 s6 (nums (xss.take i).flatten) ∧ Below w.heap.size w wr) (fun _ s27 _ => k - (intOf s27).toNat)
      case atStart => exact ⟨0, Nat.zero_le _, rfl, by simpa [nums] using HO.out, HB.out⟩
      case round =>
        obtain ⟨i, hi, rfl, hown, hbel⟩ := hrel
        have HOr := Lib.hid hown
        have HBr := Lib.hid hbel
        clear hown
        by_cases hlt : i < k
        · obtain ⟨u, xs, hu, hx, hr, ht⟩ := HG.out i hlt
          obtain ⟨b, o, rfl, _, hbB, hc0⟩ := HC.at_ i _ hu
          have hc := (hbel.cell (p := ⟨b, o + i, none⟩) hbB).trans hc0
          obtain ⟨Au, cu, rfl, _, _, HCu⟩ := hr.cells
          have hA := fun e => nums_nil' (hr.nil_of e)
          have HCu1 := HCu.below hbel
          have hlt2 : (i : Int) < (k : Int) := by omega
          have hlt3 : (i : Int) < (k : Int) := by omega
          rw [nums_length] at hc
          have hF : Hid (nums (xss.take i).flatten ++ nums xs = nums (xss.take (i + 1)).flatten) := by rw [Hid, ht, List.flatten_append, nums_append]; simp
          have hroom : Room2 (nums (xss.take i).flatten).length xs.length := by
            have g1 := lenSum_take xss (i + 1)
            rw [HS.out] at g1
            rw [ht, lenSum_snoc, lenSum_flat] at g1
            rw [nums_length]; exact room2 (by omega)
          have hbs := hbel.size
          clear hc0 HCu ht hr hu hx
          go_wp2_with (at_builtin; refine app_all (w0 := w) HOr.out HBr.out (Nat.le_refl _) hbs HCu1 hA hroom 24 Tryz.underlying24 rfl _ _ rfl rfl rfl ?_; intro v2 w2 g1 g2 g3 g4)
          have HQ : Hid (Own w2 w.heap.size 2 v2 (nums (xss.take (i + 1)).flatten) ∧ Below w.heap.size w w2) := ⟨by rw [← hF.out]; exact g1, g2⟩
          clear g1 g2 g3 g4
          go_roundw
          case rel => exact ⟨i + 1, by omega, by go_num, HQ.out⟩
          case measure => simp [intOf]; omega
        · have hie : i = k := by omega
          subst hie
          go_wp2
          go_ret
          exact ⟨_, rfl, by have h := HOr.out; rw [HT.out] at h; exact h, HBr.out⟩
end Go.Proofs.YtopfcpnilblieaaGreatDoor
