/- the draws of alphabets and words -/
import Derived.Test.YtopfcpnilblieaaGreatDoorSrc
import Derived.StillTailTactics
import Derived.Test.YtopfcpnilblieaaGreatDoorApp
namespace Go.Proofs.YtopfcpnilblieaaGreatDoor
open Go.RowKit

theorem u64_ex (x : Int) : ∃ h : Nat, h < 18446744073709551616 ∧ IntKind.u64.wrap x = (h : Int) :=
  ⟨(IntKind.u64.wrap x).toNat, by rw [IntKind.wrap_u64]; omega, by rw [IntKind.wrap_u64]; omega⟩
theorem src_new {w : World} {T : Nat} {A : Option Addr} {n c h : Nat} (hn : n ≤ 4096) (hh : h < 18446744073709551616) (hB : Bytes w w.heap.size A n) :
    Src (w.alloc (.cells #[.slice A n c, .int .i64 0, .int .u64 (h : Int)] T)) w.heap.size := by
  refine ⟨by simp, A, n, c, 0, h, ?_, ?_, ?_, hn, Nat.zero_le _, hh, ?_, ?_, hB.below ((Below.refl _ w).alloc (Nat.le_refl _) _) (Nat.le_refl _)⟩ <;> simp [go_sem]

set_option maxRecDepth 100000 in
theorem from_c (A : Option Addr) (n c : Nat) (w : World) (hn : n ≤ 4096) (hB : Bytes w w.heap.size A n) : Calls Tryz.prog 11 #[.slice A n c] w fun e w' =>
    e = .returned (.pointer (some ⟨w.heap.size, 0, none⟩)) ∧ Src w' w.heap.size ∧ Below w.heap.size w w' := by
  obtain ⟨h0, hh0, e0⟩ := u64_ex (9341 + n)
  have HS : Hid _ := src_new (T := 56) (c := c) hn hh0 hB
  have hB1 := hB.below ((Below.refl _ w).alloc (Nat.le_refl _) (.cells #[.slice A n c, .int .i64 0, .int .u64 (h0 : Int)] 56)) (Nat.le_refl _)
  clear hB
  go_enter Tryz.func11, Tryz.ntmps11
  go_wp2
  go_loopw [4] (fun s4 wr => ∃ i : Nat, i ≤ n ∧ s4 = .int .i64 i ∧ Src wr w.heap.size ∧ Below w.heap.size w wr ∧ Bytes wr w.heap.size A n) (fun s4 _ => n - (intOf s4).toNat)
  case atStart => exact ⟨0, Nat.zero_le _, rfl, HS.out, (Below.refl _ w).alloc (Nat.le_refl _) _, hB1⟩
  case round =>
    obtain ⟨i, hi, rfl, HSr, HB, HY⟩ := hrel
    by_cases hlt : i < n
    · obtain ⟨ad, b, rfl, hl, hb, hc⟩ := HY.at_ i hlt
      obtain ⟨A', n', c', a, h, g0, g1, g2, g3, g4, g5, f1, f2, _⟩ := HSr.ex
      have hlt2 : (i : Int) < n := by omega
      have hlt3 : (i : Int) < 4096 := by omega
      obtain ⟨h', hh', e2⟩ := u64_ex (IntKind.u64.wrap (IntKind.u64.wrap ((h : Int) * 1099511628211) + IntKind.u64.wrap b) + 11)
      have HSR := Lib.hid HSr
      clear HSr g0 g1 g3 g4 f1
      go_wp2
      go_still_tail 15, (by kernel_rfl)
      change wpList _ _ _ _ _ (World.drew _)
      go_wp2
      go_roundw
      case rel => exact ⟨i + 1, by omega, by go_num, HSR.out.drew.set2 hh', HB.drew.setCell (p := ⟨w.heap.size, 2, none⟩) (by simp) _, HY.drew.set _⟩
      case measure => simp [intOf]; omega
    · have hlt2 : ¬ (i : Int) < n := by omega
      have HSR := Lib.hid HSr
      clear HSr
      go_wp2
      go_ret
      exact ⟨rfl, HSR.out, HB⟩
set_option maxRecDepth 100000 in
theorem roll_c (A : Option Addr) (n c seed : Nat) (w : World) (hn : n ≤ 4096) (hB : Bytes w w.heap.size A n) : Calls Tryz.prog 9 #[.slice A n c, .int .u64 (seed : Int)] w fun e w' =>
    e = .returned (.pointer (some ⟨w.heap.size, 0, none⟩)) ∧ Src w' w.heap.size ∧ Below w.heap.size w w' := by
  obtain ⟨h0, hh0, e0⟩ := u64_ex (IntKind.u64.wrap ((seed : Int) * 7681) + n)
  have HS : Hid _ := src_new (T := 53) (c := c) hn hh0 hB
  have hB1 := hB.below ((Below.refl _ w).alloc (Nat.le_refl _) (.cells #[.slice A n c, .int .i64 0, .int .u64 (h0 : Int)] 53)) (Nat.le_refl _)
  clear hB
  go_enter Tryz.func9, Tryz.ntmps9
  go_wp2
  go_loopw [6] (fun s4 wr => ∃ i : Nat, i ≤ n ∧ s4 = .int .i64 i ∧ Src wr w.heap.size ∧ Below w.heap.size w wr ∧ Bytes wr w.heap.size A n) (fun s4 _ => n - (intOf s4).toNat)
  case atStart => exact ⟨0, Nat.zero_le _, rfl, HS.out, (Below.refl _ w).alloc (Nat.le_refl _) _, hB1⟩
  case round =>
    obtain ⟨i, hi, rfl, HSr, HB, HY⟩ := hrel
    by_cases hlt : i < n
    · obtain ⟨ad, b, rfl, hl, hb, hc⟩ := HY.at_ i hlt
      obtain ⟨A', n', c', a, h, g0, g1, g2, g3, g4, g5, f1, f2, _⟩ := HSr.ex
      have hlt2 : (i : Int) < n := by omega
      obtain ⟨h', hh', e2⟩ := u64_ex (IntKind.u64.wrap (IntKind.u64.wrap ((h : Int) * 1099511628211) + IntKind.u64.wrap b) + 5)
      have HSR := Lib.hid HSr
      clear HSr g0 g1 g3 g4 f1
      go_wp2
      go_still_tail 15, (by kernel_rfl)
      change wpList _ _ _ _ _ (World.drew _)
      go_wp2
      go_roundw
      case rel => exact ⟨i + 1, by omega, by go_num, HSR.out.drew.set2 hh', HB.drew.setCell (p := ⟨w.heap.size, 2, none⟩) (by simp) _, HY.drew.set _⟩
      case measure => simp [intOf]; omega
    · have hlt2 : ¬ (i : Int) < n := by omega
      have HSR := Lib.hid HSr
      clear HSr
      go_wp2
      go_ret
      exact ⟨rfl, HSR.out, HB⟩

/-- A slice that was made behind the source: its cells. -/
theorem pick_c (g : Nat) (A : Option Addr) (c : Nat) (xs : List Int) (w : World) (hs : Src w g) (hl : 0 < xs.length) (hm : xs.length ≤ 1000000) (HC : Cells w (g + 1) w.heap.size A (nums xs)) :
    Calls Tryz.prog 25 #[.pointer (some ⟨g, 0, none⟩), .slice A xs.length c] w fun e w' => ∃ x ∈ xs, e = .returned (.int .i64 x) ∧ Src w' g ∧ Only w w' g := by
  have cn := next_c g xs.length w hs (by omega)
  have HH := Lib.hid hs
  clear hs
  go_enter Tryz.func25, Tryz.ntmps25
  go_wp2_with fail
  refine cn.mono ?_
  rintro e w1 ⟨k, rfl, hk, hs1, ho⟩
  have hkl : k < xs.length := by omega
  have HC1 := HC.grown ho (by omega)
  obtain ⟨b, o, rfl, _, _, hc⟩ := HC1.at_ k _ (nums_get hkl)
  have hmem : Hid (xs[k] ∈ xs) := List.getElem_mem hkl
  generalize xs[k] = x at hc hmem
  have HS := Lib.hid hs1
  have HO := Lib.hid ho
  clear hs1 ho
  go_wp2
  go_ret
  exact ⟨x, hmem.out, rfl, HS.out, HO.out⟩

/-- The masks of an alphabet in which no two letters depend. -/
def freeL (n : Nat) : List Nat := (List.range n).map fun i => 2 ^ i
theorem freeL_length (n : Nat) : (freeL n).length = n := by simp [freeL]
theorem freeL_succ (n : Nat) : freeL (n + 1) = freeL n ++ [2 ^ n] := by simp [freeL, List.range_succ]
/-- Two cells that a function keeps in block X. -/
structure Two (w : World) (X : Nat) (u v : Value) : Prop where
  lt : X < w.heap.size
  c0 : w.cell? ⟨X, 0, none⟩ = some u
  c1 : w.cell? ⟨X, 1, none⟩ = some v
  f0 : w.frozen? ⟨X, 0, none⟩ = false
  f1 : w.frozen? ⟨X, 1, none⟩ = false
theorem Two.grown {w w' : World} {X : Nat} {u v : Value} {row : Option Nat} (h : Two w X u v) (hg : w.grownBy w' row) (hX : row ≠ some X) : Two w' X u v :=
  ⟨Nat.lt_of_lt_of_le h.lt hg.size, (hg.cell_far ⟨X, 0, none⟩ h.lt (Ne.symm hX)).trans h.c0, (hg.cell_far ⟨X, 1, none⟩ h.lt (Ne.symm hX)).trans h.c1,
   (hg.frozen_far ⟨X, 0, none⟩ h.lt (Ne.symm hX)).trans h.f0, (hg.frozen_far ⟨X, 1, none⟩ h.lt (Ne.symm hX)).trans h.f1⟩
theorem Two.below {w w' : World} {X : Nat} {u v : Value} {B : Nat} (h : Two w X u v) (hb : Below B w w') (hX : X < B) : Two w' X u v :=
  ⟨Nat.lt_of_lt_of_le h.lt hb.size, (hb.cell (p := ⟨X, 0, none⟩) hX).trans h.c0, (hb.cell (p := ⟨X, 1, none⟩) hX).trans h.c1, (hb.frozen (p := ⟨X, 0, none⟩) hX).trans h.f0, (hb.frozen (p := ⟨X, 1, none⟩) hX).trans h.f1⟩
theorem Two.step {w w' : World} {X : Nat} {u v : Value} (h : Two w X u v) (hb : Below w.heap.size w w') : Two w' X u v := h.below hb h.lt
theorem Two.set1 {w : World} {X : Nat} {u v : Value} (h : Two w X u v) (v' : Value) : Two (w.setCell ⟨X, 1, none⟩ v') X u v' := by
  obtain ⟨h1, h2, h3, h4, h5⟩ := h
  refine ⟨by simpa [go_sem] using h1, ?_, ?_, ?_, ?_⟩ <;> simp [go_sem, *]
theorem Two.set0 {w : World} {X : Nat} {u v : Value} (h : Two w X u v) (u' : Value) : Two (w.setCell ⟨X, 0, none⟩ u') X u' v := by
  obtain ⟨h1, h2, h3, h4, h5⟩ := h
  refine ⟨by simpa [go_sem] using h1, ?_, ?_, ?_, ?_⟩ <;> simp [go_sem, *]
theorem Two.new (w : World) (u v : Value) (T : Nat) : Two (w.alloc (.cells #[u, v] T)) w.heap.size u v := by
  refine ⟨by simp, ?_, ?_, ?_, ?_⟩ <;> simp [go_sem]
/-- A struct of two cells, a number and a row of the call's own, in block X. -/
structure Pair (w : World) (base X : Nat) (n : Int) (v : Value) (xs : List Value) : Prop where
  two : Two w X (.int .i64 n) v
  own : Own w base 2 v xs
  off : v.ownBlock ≠ some X
theorem Pair.grown {w w' : World} {base X g : Nat} {n : Int} {v : Value} {xs : List Value} (h : Pair w base X n v xs) (hg : Only w w' g) (hX : g ≠ X) (hv : v.ownBlock = none ∨ v.ownBlock ≠ some g) : Pair w' base X n v xs :=
  ⟨h.two.grown hg (fun e => hX (by injection e)), h.own.kept hg hv, h.off⟩
theorem Pair.push {wr W w1 : World} {base X n' g m cap : Nat} {n : Int} {v : Value} {xs ys : List Value} (h : Pair wr base X n v xs) (hW : Below wr.heap.size wr W) (hg : W.grownBy w1 v.ownBlock)
    (hown : Own w1 base 2 (.slice (some ⟨g, 0, none⟩) m cap) ys) (hat : v.ownBlock = some g ∨ n' ≤ g) (hn' : wr.heap.size ≤ n') : Pair (w1.setCell ⟨X, 1, none⟩ (.slice (some ⟨g, 0, none⟩) m cap)) base X n (.slice (some ⟨g, 0, none⟩) m cap) ys := by
  have hX : X ≠ g := by
    intro e
    rcases hat with hat | hat
    · exact h.off (by rw [hat, e])
    · have := h.two.lt; omega
  exact ⟨((h.two.step hW).grown hg h.off).set1 _, hown.kept (grown_set w1 X 1 _) (.inr (by simp [Value.ownBlock]; omega)), by simp [Value.ownBlock]; omega⟩
theorem own_base {w : World} {base T b : Nat} {v : Value} {xs : List Value} (h : Own w base T v xs) (hb : b < base) : v.ownBlock ≠ some b := fun e => by
  have := (World.ownsRow.lt h b e).1; omega
set_option maxRecDepth 100000 in
theorem free_c (n : Nat) (hn : n ≤ 24) (w : World) : Calls Tryz.prog 24 #[.int .i64 (n : Int)] w fun e w' =>
    ∃ v, e = .returned (.agg #[.int .i64 (n : Int), v]) ∧ Own w' w.heap.size 2 v (nats (freeL n)) ∧ Below w.heap.size w w' := by
  have hT0 := ((Two.new w (.int .i64 0) (.slice none 0 0) 26).step ((Below.refl _ _).alloc (Nat.le_refl _) (.cells #[] 2))).step ((Below.refl _ _).alloc (Nat.le_refl _) (.cells #[.int .i64 (n : Int), .slice (some ⟨w.heap.size + 1, 0, none⟩) 0 0] 26))
  have hT1 := Two.new ((w.alloc (.cells #[.int .i64 0, .slice none 0 0] 26)).alloc (.cells #[] 2)) (.int .i64 (n : Int)) (.slice (some ⟨w.heap.size + 1, 0, none⟩) 0 0) 26
  simp only [World.size_alloc] at hT1
  have HT0 := Lib.hid hT0
  have HT1 := Lib.hid hT1
  clear hT0 hT1
  have ho := World.ownsRow_lit (base := w.heap.size + 1) (e := 2) (size := 1) (w.alloc (.cells #[.int .i64 0, .slice none 0 0] 26)) #[] 0 (by simp) (by decide) rfl
  have HO0 := Lib.hid (ho.alloc (.cells #[.int .i64 (n : Int), .slice (some ⟨w.heap.size + 1, 0, none⟩) 0 0] 26))
  clear ho
  go_enter Tryz.func24, Tryz.ntmps24
  go_wp2
  go_loopw [4] (fun s4 wr => ∃ (k : Nat) (v : Value), k ≤ n ∧ s4 = .int .i64 k ∧ Pair wr (w.heap.size + 1) (w.heap.size + 2) n v (nats (freeL k)) ∧ Below w.heap.size w wr ∧ Two wr w.heap.size (.int .i64 0) (.slice none 0 0)) (fun s4 _ => n - (intOf s4).toNat)
  case atStart =>
    exact ⟨0, _, Nat.zero_le _, rfl, ⟨HT1.out, by simpa [Own, freeL, nats] using HO0.out, by simp [Value.ownBlock]⟩, ((((Below.refl _ w).alloc (Nat.le_refl _) _).alloc (by simp) _).alloc (by simp; omega) _), HT0.out⟩
  case round =>
    obtain ⟨k, v, hk, rfl, HP, HB, hZ⟩ := hrel
    have HZ := Lib.hid hZ
    clear hZ
    by_cases hlt : k < n
    · have hlt2 : (k : Int) < n := by omega
      have co := fun W => sOne_c k (by omega) W
      have q1 := HP.two.c1
      have q2 := HP.two.f1
      have HOW := Lib.hid HP.own
      have q3 := HP.off
      have hX := HP.two.lt
      have HPP := Lib.hid HP
      have HBB := Lib.hid HB
      have hroom : Room (nats (freeL k)).length := by rw [nats_length, freeL_length]; exact room (by omega)
      have K1 : Hid (∀ o, (wr.alloc o).drew.cell? ⟨w.heap.size + 2, 1, none⟩ = some v ∧ (wr.alloc o).drew.frozen? ⟨w.heap.size + 2, 1, none⟩ = false) := fun o =>
        ⟨(((Below.refl _ wr).alloc (Nat.le_refl _) o).drew.cell (p := ⟨w.heap.size + 2, 1, none⟩) hX).trans q1, (((Below.refl _ wr).alloc (Nat.le_refl _) o).drew.frozen (p := ⟨w.heap.size + 2, 1, none⟩) hX).trans q2⟩
      clear HP HB
      go_wp2
      go_region_law (first
          | (go_simp; go_at_call 55; refine (co _).mono ?_; rintro e w' ⟨rfl, rfl⟩)
          | (refine step_app1 (w0 := w) (xs := nats (freeL k)) (HOW.out.alloc _).drew (HBB.out.alloc (by omega) _).drew (by omega) (by simp; omega) hroom _ _ (heap_alloc_new _ _) 24 Tryz.underlying24 (by rfl) _ _ (by rfl) (by rfl) (by rfl) ?_; intro g cap w1 hown1 hbel1 hgrow hat; have r1 := (hgrow.cell_far ⟨w.heap.size + 2, 1, none⟩ (by simp; omega) (Ne.symm q3)).trans (K1.out _).1; have r2 := (hgrow.frozen_far ⟨w.heap.size + 2, 1, none⟩ (by simp; omega) (Ne.symm q3)).trans (K1.out _).2))
      all_goals
        go_wp2
        go_roundw
        case rel =>
          have hal := ((Below.refl wr.heap.size wr).alloc (Nat.le_refl _) (.cells #[.int .i64 (p2 k : Int)] 2)).drew
          exact ⟨k + 1, _, by omega, by go_num, by rw [freeL_succ, nats_append]; exact HPP.out.push hal hgrow hown1 hat (by simp [go_sem]), hbel1.setCell (p := ⟨w.heap.size + 2, 1, none⟩) (by simp) _,
            ((HZ.out.step hal).grown hgrow (own_base HOW.out (by omega))).grown (grown_set _ _ _ _) (fun e => by injection e; omega)⟩
        case measure => simp [intOf]; omega
    · have hke : k = n := by omega
      subst hke
      have q0 := HP.two.c0
      have q1 := HP.two.c1
      have z0 := HZ.out.c0
      have z1 := HZ.out.c1
      have z2 := HZ.out.f0
      have z3 := HZ.out.f1
      have HPP := Lib.hid HP
      obtain ⟨A, c, rfl, _, _, _⟩ := HP.own.cells
      clear HP
      go_wp2
      refine bodyPost_ret_by (v := .agg #[.int .i64 k, .slice A (nats (freeL k)).length c]) ?_ rfl ?_
      · simp [results, Tryz.results24, go_sem, *]
      · have hne := own_base HPP.out.own (show w.heap.size < w.heap.size + 1 by omega)
        exact ⟨_, rfl, Own.base ((HPP.out.own.kept (grown_set _ w.heap.size 0 _) (.inr hne)).kept (grown_set _ w.heap.size 1 _) (.inr hne)) (by omega),
          (HB.setCell (p := ⟨w.heap.size, 0, none⟩) (by simp) _).setCell (p := ⟨w.heap.size, 1, none⟩) (by simp) _⟩
end Go.Proofs.YtopfcpnilblieaaGreatDoor
