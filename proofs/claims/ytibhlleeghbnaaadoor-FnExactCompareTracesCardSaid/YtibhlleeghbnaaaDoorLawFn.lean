/- the laws' own functions: sizes, copies, comparisons -/
import Derived.Test.YtibhlleeghbnaaaDoorSpec1
import Derived.Deep.QuietTactic
import Derived.BigQuiet
namespace Go.Proofs.YtibhlleeghbnaaaDoor
open Go.RowKit

def szI (left : Int) (n : Nat) : Int := if left < n then -1 else left - n
/-- A slice that came in: its cells, wherever they lie. -/
structure Came (w : World) (v : Value) (xs : List Int) : Prop where
  ex : ∃ A c, v = .slice A xs.length c ∧ xs.length ≤ 9223372036854775807 ∧ ∀ j u, (nums xs)[j]? = some u → ∃ a : Addr, A = some a ∧ a.block < w.heap.size ∧ w.cell? (a.add j) = some u
theorem add_block (a : Addr) (n : Nat) : (a.add n).block = a.block := by unfold Addr.add; split <;> rfl
theorem Came.below {w w' : World} {v : Value} {xs : List Int} (h : Came w v xs) (hb : Below w.heap.size w w') : Came w' v xs := by
  obtain ⟨A, c, e, h1, h2⟩ := h
  refine ⟨A, c, e, h1, fun j u hj => ?_⟩
  obtain ⟨a, ea, hl, hc⟩ := h2 j u hj
  exact ⟨a, ea, Nat.lt_of_lt_of_le hl hb.size, (hb.cell (p := a.add j) (by rw [add_block]; exact hl)).trans hc⟩
theorem sz_c (A : Option Addr) (n c : Nat) (left : Int) (w : World) (h0 : 0 ≤ left) (h1 : left ≤ 1048576) (hm : n ≤ 9223372036854775807) :
    Calls Tryd.prog 21 #[.slice A n c, .int .i64 left] w fun e w' => e = .returned (.int .i64 (szI left n)) ∧ w = w' := by
  have hw : IntKind.i64.wrap (left - (n : Int)) = left - n := by rw [IntKind.wrap_i64]; omega
  by_cases h : left < n
  · have E : Hid (szI left n = -1) := if_pos h
    have h' : left - (n : Int) < 0 := by omega
    clear h
    go_enter Tryd.func21, Tryd.ntmps21
    go_wp2
    go_ret
    exact ⟨ret_i E.out.symm, rfl⟩
  · have E : Hid (szI left n = left - n) := if_neg h
    have h' : ¬ left - (n : Int) < 0 := by omega
    clear h
    go_enter Tryd.func21, Tryd.ntmps21
    go_wp2
    go_ret
    exact ⟨ret_i E.out.symm, rfl⟩

theorem nums_set (xs : List Int) (k : Nat) (m : Int) : (nums xs).set k (.int .i64 m) = nums (xs.set k m) := by simp [nums, List.map_set]
/-- The first k copied, the others still 0. -/
def copyTo (xs : List Int) (k : Nat) : List Int := xs.take k ++ List.replicate (xs.length - k) 0
theorem copyTo_zero (xs : List Int) : copyTo xs 0 = List.replicate xs.length 0 := by simp [copyTo]
theorem copyTo_all (xs : List Int) : copyTo xs xs.length = xs := by simp [copyTo]
theorem copyTo_set {xs : List Int} {k : Nat} (h : k < xs.length) : (copyTo xs k).set k xs[k] = copyTo xs (k + 1) := by
  unfold copyTo
  apply List.ext_getElem
  · simp; omega
  · intro j h1 h2
    simp only [List.getElem_set, List.getElem_append, List.length_take, List.getElem_take, List.getElem_replicate]
    by_cases e : k = j
    · subst e
      rw [if_pos rfl, dif_pos (by omega)]
    · rw [if_neg e]
      by_cases hj : j < k
      · rw [dif_pos (by omega), dif_pos (by omega)]
      · rw [dif_neg (by omega), dif_neg (by omega)]
theorem copyTo_length (xs : List Int) (k : Nat) (h : k ≤ xs.length) : (copyTo xs k).length = xs.length := by simp [copyTo]; omega
def Len (n : Nat) : Prop := n ≤ 2000000
theorem make_int2 (n : Nat) (hn : Len n) : ∀ W : World, (Instr.makeSlice 22 (.int .i64 (n : Int)) (.int .i64 (n : Int))).run Tryd.prog W = .ok (.slice (some ⟨W.heap.size, 0, none⟩) n n) (W.alloc (.cells (madeCells #[.int .i64 0] n) 2)) :=
  fun W => run_make_row' 22 2 (.int .i64 0) 8 Tryd.underlying22 infoInt rfl .i64 .i64 n (by unfold Len at hn; omega) (by unfold Len at hn; omega) W
theorem own_made2 (W : World) (n : Nat) (hn : Len n) : Own (W.alloc (.cells (madeCells #[.int .i64 0] n) 2)) W.heap.size 2 (.slice (some ⟨W.heap.size, 0, none⟩) n n) (nums (List.replicate n 0)) := by
  have h := World.ownsRow_lit (base := W.heap.size) (e := 2) (size := 1) W (madeCells #[.int .i64 0] n) n (Nat.le_refl _) (by simp only [maxLen]; unfold Len at hn; omega) (by rw [size_madeCells]; omega)
  rw [toList_madeCells_one] at h
  have e : nums (List.replicate n 0) = List.replicate n (.int .i64 0) := by simp [nums]
  unfold Own
  rw [e]
  simpa using h

theorem toS_c (v : Value) (xs : List Int) (w : World) (hn : Len xs.length) (hv : Came w v xs) :
    Calls Tryd.prog 8 #[v] w (OutRow 2 (nums xs) w) := by
  obtain ⟨A, c, rfl, h2, HC⟩ := hv.ex
  have hmk := make_int2 xs.length hn
  have ho := Lib.hid (own_made2 w xs.length hn)
  clear hv hn
  go_enter Tryd.func8, Tryd.ntmps8
  go_wp2
  go_loopw [4] (fun s4 wr => ∃ i : Nat, i ≤ xs.length ∧ s4 = .int .i64 i ∧ Own wr w.heap.size 2 (.slice (some ⟨w.heap.size, 0, none⟩) xs.length xs.length) (nums (copyTo xs i)) ∧ Below w.heap.size w wr) (fun s4 _ => xs.length - (intOf s4).toNat)
  case atStart => exact ⟨0, Nat.zero_le _, rfl, by rw [copyTo_zero]; exact ho.out, (Below.refl _ w).alloc (Nat.le_refl _) _⟩
  case round =>
    obtain ⟨i, hi, rfl, HO, HB⟩ := hrel
    by_cases hlt : i < xs.length
    · obtain ⟨a, rfl, hb, hcs0⟩ := HC i _ (nums_get hlt)
      have hcs := (HB.cell (p := a.add i) (by rw [add_block]; exact hb)).trans hcs0
      clear hcs0
      have hfx := HO.frozenAt i
      have hl := copyTo_length xs i hi
      obtain ⟨y, hcx⟩ : ∃ y, wr.cell? ⟨w.heap.size, i, none⟩ = some y := ⟨_, HO.cellAt (nums_get (show i < (copyTo xs i).length by omega))⟩
      have hst := HO.stored i (.int .i64 xs[i])
      rw [nums_set, copyTo_set hlt] at hst
      have HST := Lib.hid hst
      have HSZ := Lib.hid HB.size
      clear hst hl
      generalize xs[i] = x at hcs HST
      go_wp2
      obtain ⟨hs1, hs2⟩ := HST.out
      go_roundw
      case rel => exact ⟨i + 1, by omega, by go_num, hs1, HB.trans (below_grown hs2 (Nat.le_refl _) HSZ.out)⟩
      case measure => simp [intOf]; omega
    · have hie : i = xs.length := by omega
      subst hie
      rw [copyTo_all] at HO
      go_wp2
      go_ret
      exact ⟨_, rfl, HO, HB⟩

theorem eqS_c (v1 v2 : Value) (xs : List Int) (w : World) (B : Nat) (h1 : Rd w B v1 (nums xs)) (h2 : Rd w B v2 (nums xs)) :
    Calls Tryd.prog 11 #[v1, v2] w fun e w' => e = .returned (.bool true) ∧ ∃ q, w' = w.drewN q := by
  obtain ⟨A1, c1, rfl, hl1, hm1, HC1⟩ := h1.cells
  obtain ⟨A2, c2, rfl, hl2, hm2, HC2⟩ := h2.cells
  simp only [nums_length] at *
  clear h1 h2
  go_enter Tryd.func11, Tryd.ntmps11
  go_wp2
  go_loopw [5] (fun s5 wr => ∃ k q : Nat, k ≤ xs.length ∧ s5 = .int .i64 k ∧ wr = w.drewN q) (fun s5 _ => xs.length - (intOf s5).toNat)
  case atStart => exact ⟨0, 0, Nat.zero_le _, rfl, rfl⟩
  case round =>
    obtain ⟨k, q, hk1, rfl, rfl⟩ := hrel
    by_cases hlt : k < xs.length
    · obtain ⟨b1, o1, rfl, _, _, hc1⟩ := HC1.at_ k _ (nums_get hlt)
      obtain ⟨b2, o2, rfl, _, _, hc2⟩ := HC2.at_ k _ (nums_get hlt)
      generalize xs[k] = x at hc1 hc2
      have hne : ((x : Int) != x) = false := by simp
      go_wp2
      go_quiet (fail)
      go_wp2
      go_roundw
      case rel => exact ⟨k + 1, _, by omega, by go_num, rfl⟩
      case measure => simp [intOf]; omega
    · have hke : k = xs.length := by omega
      subst hke
      go_wp2
      go_ret
      exact ⟨rfl, _, rfl⟩
theorem grown_set (W : World) (b o : Nat) (v : Value) : W.grownBy (W.setCell ⟨b, o, none⟩ v) (some b) :=
  ⟨rfl, rfl, rfl, by simp [go_sem], fun k _ hk => Below.heap_setCell W ⟨b, o, none⟩ v k (fun e => hk (by rw [e]))⟩
theorem szAl_c (n : Int) (A : Option Addr) (m k : Nat) (left : Int) (w : World) (h0 : 0 ≤ left) (h1 : left ≤ 1048576) (hm : m ≤ 9223372036854775807) :
    Calls Tryd.prog 5 #[.agg #[.int .i64 n, .slice A m k], .int .i64 left] w fun e w' => e = .returned (.int .i64 (szI left m)) ∧ Below w.heap.size w w' := by
  have hb1 : Below w.heap.size w (w.alloc (.cells #[.int .i64 n, .slice A m k] 24)) := (Below.refl _ w).alloc (Nat.le_refl _) _
  have c := sz_c A m k left (w.alloc (.cells #[.int .i64 n, .slice A m k] 24)) h0 h1 hm
  by_cases h : left < m
  · have E : Hid (szI left m = -1) := if_pos h
    rw [E.out] at c
    go_enter Tryd.func5, Tryd.ntmps5
    go_wp2_with (go_at_call 21; refine c.mono ?_; rintro e w' ⟨rfl, rfl⟩)
    go_ret
    exact ⟨ret_i E.out.symm, hb1⟩
  · have E : Hid (szI left m = left - m) := if_neg h
    rw [E.out] at c
    have h' : ¬ left - (m : Int) < 0 := by omega
    clear h
    go_enter Tryd.func5, Tryd.ntmps5
    go_wp2_with (go_at_call 21; refine c.mono ?_; rintro e w' ⟨rfl, rfl⟩)
    go_ret
    exact ⟨ret_i E.out.symm, hb1⟩
theorem toAl_c (n : Int) (v : Value) (xs : List Int) (w : World) (hn : Len xs.length) (hv : Came w v xs) :
    Calls Tryd.prog 7 #[.agg #[.int .i64 n, v]] w fun e w' => ∃ u, e = .returned (.agg #[.int .i64 n, u]) ∧ Own w' w.heap.size 2 u (nums xs) ∧ Below w.heap.size w w' := by
  have hb1 : Below w.heap.size w (((w.alloc (.cells #[.int .i64 n, v] 24)).alloc (.cells #[.int .i64 0, .slice none 0 0] 28)).alloc (.cells #[.int .i64 n, .slice none 0 0] 28)) := (((Below.refl _ w).alloc (Nat.le_refl _) _).alloc (by simp) _).alloc (by simp; omega) _
  have c := toS_c v xs _ hn (hv.below hb1)
  have hz : (((w.alloc (.cells #[.int .i64 n, v] 24)).alloc (.cells #[.int .i64 0, .slice none 0 0] 28)).alloc (.cells #[.int .i64 n, .slice none 0 0] 28)).heap.size = w.heap.size + 3 := by simp
  clear hv
  go_enter Tryd.func7, Tryd.ntmps7
  go_wp2_with fail
  refine c.mono ?_
  rintro e w' ⟨u, rfl, HO, HB⟩
  rw [hz] at HO HB
  obtain ⟨A2, c2, rfl, l2, _, _⟩ := HO.cells
  have k0 := (HB.cell (p := ⟨w.heap.size + 1, 0, none⟩) (by simp)).trans (show _ = some (.int .i64 0) by simp [go_sem])
  have k1 := (HB.cell (p := ⟨w.heap.size + 1, 1, none⟩) (by simp)).trans (show _ = some (.slice none 0 0) by simp [go_sem])
  have k2 := (HB.cell (p := ⟨w.heap.size + 1 + 1, 0, none⟩) (by simp)).trans (show _ = some (.int .i64 n) by simp [go_sem])
  have k3 := (HB.cell (p := ⟨w.heap.size + 1 + 1, 1, none⟩) (by simp)).trans (show _ = some (.slice none 0 0) by simp [go_sem])
  have f0 := (HB.frozen (p := ⟨w.heap.size + 1, 0, none⟩) (by simp)).trans (show _ = false by simp [go_sem])
  have f1 := (HB.frozen (p := ⟨w.heap.size + 1, 1, none⟩) (by simp)).trans (show _ = false by simp [go_sem])
  have f2 := (HB.frozen (p := ⟨w.heap.size + 1 + 1, 0, none⟩) (by simp)).trans (show _ = false by simp [go_sem])
  have f3 := (HB.frozen (p := ⟨w.heap.size + 1 + 1, 1, none⟩) (by simp)).trans (show _ = false by simp [go_sem])
  go_wp2
  have HO1 : Own (((w'.setCell ⟨w.heap.size + 1 + 1, 1, none⟩ (.slice A2 (nums xs).length c2)).setCell ⟨w.heap.size + 1, 0, none⟩ (.int .i64 n)).setCell ⟨w.heap.size + 1, 1, none⟩ (.slice A2 (nums xs).length c2)) w.heap.size 2 (.slice A2 (nums xs).length c2) (nums xs) := by
    have hne : ∀ k, k < 3 → (Value.slice A2 (nums xs).length c2).ownBlock = none ∨ (Value.slice A2 (nums xs).length c2).ownBlock ≠ some (w.heap.size + k) := fun k hk => by
      rcases HO.2 with ⟨e, _⟩ | ⟨g, cap, cur, e, hb, _⟩
      · left; rw [e]; rfl
      · right; rw [e]; intro e2; simp [Value.ownBlock] at e2; omega
    exact Own.base (((HO.kept (grown_set w' (w.heap.size + 2) 1 _) (hne 2 (by omega))).kept (grown_set _ (w.heap.size + 1) 0 _) (hne 1 (by omega))).kept (grown_set _ (w.heap.size + 1) 1 _) (hne 1 (by omega))) (by omega)
  have hbw : Below w.heap.size w w' := hb1.trans (HB.mono (by omega))
  have HB1 : Below w.heap.size w (((w'.setCell ⟨w.heap.size + 1 + 1, 1, none⟩ (.slice A2 (nums xs).length c2)).setCell ⟨w.heap.size + 1, 0, none⟩ (.int .i64 n)).setCell ⟨w.heap.size + 1, 1, none⟩ (.slice A2 (nums xs).length c2)) :=
    ((hbw.setCell (p := ⟨w.heap.size + 1 + 1, 1, none⟩) (by simp; omega) _).setCell (p := ⟨w.heap.size + 1, 0, none⟩) (by simp) _).setCell (p := ⟨w.heap.size + 1, 1, none⟩) (by simp) _
  refine bodyPost_ret_by (v := .agg #[.int .i64 n, .slice A2 (nums xs).length c2]) ?_ rfl ?_
  · simp [results, Tryd.results7, go_sem, *]
  · exact ⟨_, rfl, HO1, HB1⟩
theorem eqAl_c (n : Int) (v1 v2 : Value) (xs : List Int) (w : World) (h1 : Rd w w.heap.size v1 (nums xs)) (h2 : Rd w w.heap.size v2 (nums xs)) :
    Calls Tryd.prog 10 #[.agg #[.int .i64 n, v1], .agg #[.int .i64 n, v2]] w fun e w' => e = .returned (.bool true) ∧ Below w.heap.size w w' := by
  have hb1 : Below w.heap.size w ((w.alloc (.cells #[.int .i64 n, v1] 28)).alloc (.cells #[.int .i64 n, v2] 28)) := ((Below.refl _ w).alloc (Nat.le_refl _) _).alloc (by simp) _
  have c := eqS_c v1 v2 xs _ _ (h1.below hb1) (h2.below hb1)
  have hne : ((n : Int) != n) = false := by simp
  clear h1 h2
  go_enter Tryd.func10, Tryd.ntmps10
  go_wp2_with (go_at_call 11; refine c.mono ?_; rintro e w' ⟨rfl, q, rfl⟩)
  go_ret
  exact ⟨rfl, below_drewN hb1 _⟩
end Go.Proofs.YtibhlleeghbnaaaDoor
