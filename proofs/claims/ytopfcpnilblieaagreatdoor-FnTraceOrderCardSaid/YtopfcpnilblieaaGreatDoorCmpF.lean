/- slices.CompareFunc, cmp.Or and the comparison of steps -/
import Derived.Test.YtopfcpnilblieaaGreatDoorCmp
import Derived.Test.YtopfcpnilblieaaGreatDoorSize
namespace Go.Proofs.YtopfcpnilblieaaGreatDoor
open Go.RowKit

set_option maxHeartbeats 400000 in
theorem CompareFunc_c (g : Nat) (lb : Array Value) (eg : ∀ args w, (callFunc g args).run Tryz.prog w = .ok (.enter g args) w) (f : Int → Int → Int) (v1 v2 : Value) (xs ys : List Int) (w : World) (h1 : Rd w w.heap.size v1 (nums xs)) (h2 : Rd w w.heap.size v2 (nums ys))
    (hf : ∀ W x y, Below w.heap.size w W → x ∈ xs → y ∈ ys → Calls Tryz.prog g (#[.int .i64 x, .int .i64 y] ++ lb) W fun e w' => e = .returned (.int .i64 (f x y)) ∧ Below W.heap.size W w') :
    Calls Tryz.prog 37 #[v1, v2, .func (.func g) #[] lb] w fun e w' => e = .returned (.int .i64 (lexBy f xs ys)) ∧ Below w.heap.size w w' := by
  obtain ⟨A1, c1, rfl, hl1, hm1, HC1⟩ := h1.cells
  obtain ⟨A2, c2, rfl, hl2, hm2, HC2⟩ := h2.cells
  rw [nums_length] at hl1 hl2 hm1 hm2 ⊢
  rw [nums_length]
  have HF := Lib.hid hf
  clear h1 h2 hf
  go_enter Tryz.func37, Tryz.ntmps37
  go_wp2
  go_loopw [7, 8, 9, 10, 13] (fun _ _ _ _ s13 wr => ∃ k : Nat, k ≤ xs.length ∧ k ≤ ys.length ∧ s13 = .int .i64 k ∧ Below w.heap.size w wr ∧ Hid (lexBy f xs ys = lexBy f (xs.drop k) (ys.drop k))) (fun _ _ _ _ s13 _ => xs.length - (intOf s13).toNat)
  case atStart => exact ⟨0, Nat.zero_le _, Nat.zero_le _, rfl, Below.refl _ _, by simp [Hid]⟩
  case round =>
    obtain ⟨k, hk1, hk2, rfl, HB, HL⟩ := hrel
    by_cases hlt : k < xs.length
    · obtain ⟨b1, o1, rfl, _, _, hc1⟩ := (HC1.below HB).at_ k _ (nums_get hlt)
      by_cases hlt2 : k < ys.length
      · obtain ⟨b2, o2, rfl, _, _, hc2⟩ := (HC2.below HB).at_ k _ (nums_get hlt2)
        have hs := lexBy_step (f := f) hlt hlt2
        have cc := HF.out wr xs[k] ys[k] HB (List.getElem_mem hlt) (List.getElem_mem hlt2)
        generalize xs[k] = x at hc1 hs cc
        generalize ys[k] = y at hc2 hs cc
        have HS := Lib.hid hs
        clear hs
        have hge : ¬ (ys.length : Int) ≤ (k : Int) := by omega
        generalize hr : f x y = r at cc HS
        by_cases hz : r = 0
        · subst hz
          have Hr := Lib.hid hr
          clear hr
          go_wp2_with (go_at_fn g; refine cc.mono ?_; rintro e w' ⟨rfl, hb1⟩)
          go_roundw
          case rel => exact ⟨k + 1, by omega, by omega, by go_num, HB.trans (hb1.mono HB.size), by rw [Hid, HL.out, HS.out]; simp⟩
          case measure => simp [intOf]; omega
        · have hb : (r != 0) = true := by simp [hz]
          have Hr := Lib.hid hr
          have Hz := Lib.hid hz
          clear hr hz
          go_wp2_with (go_at_fn g; refine cc.mono ?_; rintro e w' ⟨rfl, hb1⟩)
          go_ret
          exact ⟨ret_i (by rw [HL.out, HS.out, if_neg Hz.out]), HB.trans (hb1.mono HB.size)⟩
      · have hge : (ys.length : Int) ≤ (k : Int) := by omega
        have HS := Lib.hid (lexBy_short (f := f) hlt (by omega : ys.length ≤ k))
        go_wp2
        go_ret
        exact ⟨ret_i (by rw [HL.out, HS.out]), HB⟩
    · have hke : k = xs.length := by omega
      subst hke
      have HS := Lib.hid (lexBy_end (f := f) (ys := ys) (Nat.le_refl xs.length))
      by_cases hlt2 : xs.length < ys.length
      · have hb : decide (xs.length < ys.length) = true := by simp [hlt2]
        go_wp2
        go_ret
        exact ⟨ret_i (by rw [HL.out, HS.out, if_pos hlt2]), HB⟩
      · have hb : decide (xs.length < ys.length) = false := by simp; omega
        go_wp2
        go_ret
        exact ⟨ret_i (by rw [HL.out, HS.out, if_neg hlt2]), HB⟩

/-- The first one, or the second one where that is 0. -/
def orI (x y : Int) : Int := if x = 0 then y else x
theorem orI_ne {x y : Int} (h : x ≠ 0) : orI x y = x := if_neg h
/-- cmp.Or of two numbers that lie in a row of two. -/
theorem Or2_c (x y : Int) (b : Nat) (w : World) (h0 : w.cell? ⟨b, 0, none⟩ = some (.int .i64 x)) (h1 : w.cell? ⟨b, 1, none⟩ = some (.int .i64 y)) :
    Calls Tryz.prog 40 #[.slice (some ⟨b, 0, none⟩) 2 2] w fun e w' => e = .returned (.int .i64 (orI x y)) ∧ w = w' := by
  by_cases hx : x = 0
  · subst hx
    by_cases hy : y = 0
    · subst hy
      go_enter Tryz.func40, Tryz.ntmps40
      go_wp2
      refine wp_loop_rounds 3 ?_
      repeat any_goals (rw [rounds_succ]; go_wp2)
      go_ret
      exact ⟨rfl, rfl⟩
    · have hb : (y != 0) = true := by simp [hy]
      have hy' := Lib.hid hy
      clear hy
      go_enter Tryz.func40, Tryz.ntmps40
      go_wp2
      refine wp_loop_rounds 2 ?_
      repeat any_goals (rw [rounds_succ]; go_wp2)
      go_ret
      exact ⟨rfl, rfl⟩
  · have E := Lib.hid (orI_ne (y := y) hx)
    have hb : (x != 0) = true := by simp [hx]
    have hx' := Lib.hid hx
    clear hx
    go_enter Tryz.func40, Tryz.ntmps40
    go_wp2
    refine wp_loop_rounds 1 ?_
    repeat any_goals (rw [rounds_succ]; go_wp2)
    go_ret
    exact ⟨ret_i E.out.symm, rfl⟩

theorem size_c (n : Nat) (hn : n < 256) (w : World) : Calls Tryz.prog 42 #[.int .i64 n] w fun e w' => e = .returned (.int .i64 (mem n).length) ∧ w = w' := by
  have hw : IntKind.u64.wrap (n : Int) = (n : Int) := by rw [IntKind.wrap_u64]; omega
  have c := ones_c n hn w
  go_enter Tryz.func42, Tryz.ntmps42
  go_wp2_with (go_at_call 70; refine c.mono ?_; rintro e w' ⟨rfl, rfl⟩)
  go_ret
  exact ⟨rfl, rfl⟩

/-- Steps are compared by their sizes, then as lists. -/
def cmpStep (p q : Nat) : Int := orI (cmpI (mem p).length (mem q).length) (lexBy cmpI ((mem p).map fun (n : Nat) => (n : Int)) ((mem q).map fun (n : Nat) => (n : Int)))

theorem cmpStep_c (p q : Nat) (hp : p < 256) (hq : q < 256) (w : World) (hT : Tab w) : Calls Tryz.prog 39 #[.int .i64 p, .int .i64 q] w fun e w' => e = .returned (.int .i64 (cmpStep p q)) ∧ Below w.heap.size w w' := by
  have s1 := size_c p hp w
  have s2 := size_c q hq w
  have c1 := fun W => Compare64_c (mem p).length (mem q).length W
  have m1 := members_c p (by omega) w hT
  have m2 := fun W (hb : Below w.heap.size w W) => members_c q (by omega) W (hT.below hb)
  go_enter Tryz.func39, Tryz.ntmps39
  go_wp2_with (first
    | (go_at_call 42; first | (refine s1.mono ?_; clear s1; rintro e w' ⟨rfl, rfl⟩) | (refine s2.mono ?_; clear s2; rintro e w' ⟨rfl, rfl⟩))
    | (go_at_call 41; refine (c1 _).mono ?_; rintro e w' ⟨rfl, rfl⟩))
  refine m1.mono ?_
  rintro e W1 ⟨v1, rfl, HO1, HB1⟩
  go_wp2_with fail
  refine (m2 _ HB1).mono ?_
  rintro e W2 ⟨v2, rfl, HO2, HB2⟩
  have hr1 := (HO1.below HB2 (Nat.le_refl _)).rd
  have hr2 := HO2.rd
  rw [nats_nums] at hr1 hr2
  have c2 := SlCompare_c v1 v2 _ _ _ W2 hr1 hr2
  go_wp2_with (go_at_call 34; refine c2.mono ?_; rintro e w' ⟨rfl, rfl⟩)
  refine (Or2_c (cmpI (mem p).length (mem q).length) (lexBy cmpI ((mem p).map fun (n : Nat) => (n : Int)) ((mem q).map fun (n : Nat) => (n : Int))) W2.heap.size _ (by simp [go_sem]) (by simp [go_sem])).mono ?_
  rintro e w' ⟨rfl, rfl⟩
  go_wp2
  go_ret
  exact ⟨rfl, ((HB1.trans (HB2.mono HB1.size)).alloc (Nat.le_trans HB1.size HB2.size) _)⟩
end Go.Proofs.YtopfcpnilblieaaGreatDoor
