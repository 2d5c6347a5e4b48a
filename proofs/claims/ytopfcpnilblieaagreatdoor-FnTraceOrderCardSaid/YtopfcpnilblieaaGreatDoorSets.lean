/- sets, relations, alphabets -/
import Derived.Test.YtopfcpnilblieaaGreatDoorFuncs
import Derived.Test.YtopfcpnilblieaaGreatDoorMembers
namespace Go.Proofs.YtopfcpnilblieaaGreatDoor
open Go.RowKit

theorem length_c (v : Value) (vs : List Value) (B : Nat) (w : World) (hv : Rd w B v vs) : Calls Tryz.prog 58 #[v] w fun e w' => e = .returned (.int .i64 vs.length) ∧ w = w' := by
  obtain ⟨A, c, rfl, h1, h2, h3⟩ := hv
  clear h3
  go_enter Tryz.func58, Tryz.ntmps58
  go_wp2
  go_ret
  exact ⟨rfl, rfl⟩

theorem allIn1_c (n lo hi : Int) (b1 b2 : Nat) (W : World) (h1 : W.cell? ⟨b1, 0, none⟩ = some (.int .i64 lo)) (h2 : W.cell? ⟨b2, 0, none⟩ = some (.int .i64 hi)) :
    Calls Tryz.prog 78 #[.int .i64 n, .pointer (some ⟨b1, 0, none⟩), .pointer (some ⟨b2, 0, none⟩)] W fun e w' => e = .returned (.bool (!inR lo hi n)) ∧ W = w' := by
  have c := inRange_c n lo hi W
  go_enter Tryz.func78, Tryz.ntmps78
  go_wp2_with (go_at_call 57; refine c.mono ?_; rintro e w' ⟨rfl, rfl⟩)
  go_ret
  exact ⟨rfl, rfl⟩

theorem allIn_c (v : Value) (xs : List Int) (lo hi : Int) (w : World) (hv : Rd w w.heap.size v (nums xs)) :
    Calls Tryz.prog 63 #[v, .int .i64 lo, .int .i64 hi] w fun e w' => e = .returned (.bool (xs.all (inR lo hi))) ∧ Below w.heap.size w w' := by
  have hb2 : Below w.heap.size w ((w.alloc (.cells #[.int .i64 lo] 2)).alloc (.cells #[.int .i64 hi] 2)) := ((Below.refl _ w).alloc (Nat.le_refl _) _).alloc (by simp) _
  have hT : Tests 78 #[.pointer (some ⟨w.heap.size, 0, none⟩), .pointer (some ⟨w.heap.size + 1, 0, none⟩)] ((w.alloc (.cells #[.int .i64 lo] 2)).alloc (.cells #[.int .i64 hi] 2)) (nums xs) (xs.map fun n => !inR lo hi n) := by
    intro W j x b hW hx hb
    obtain ⟨n, hn, rfl⟩ : ∃ n, xs[j]? = some n ∧ x = .int .i64 n := by
      simp only [nums, List.getElem?_map, Option.map_eq_some_iff] at hx
      obtain ⟨n, h1, h2⟩ := hx
      exact ⟨n, h1, h2.symm⟩
    have hb' : b = !inR lo hi n := by
      rw [List.getElem?_map, hn] at hb
      simpa using hb.symm
    subst hb'
    have c1 : W.cell? ⟨w.heap.size, 0, none⟩ = some (.int .i64 lo) := (hW.cell (p := ⟨w.heap.size, 0, none⟩) (by simp; omega)).trans (by simp [go_sem])
    have c2 : W.cell? ⟨w.heap.size + 1, 0, none⟩ = some (.int .i64 hi) := (hW.cell (p := ⟨w.heap.size + 1, 0, none⟩) (by simp)).trans (by simp [go_sem])
    exact (allIn1_c n lo hi _ _ W c1 c2).mono fun e w' ⟨he, hw⟩ => ⟨he, hw ▸ Below.refl _ _⟩
  have c := icontainsFunc_c 78 _ (enters_of Tryz.func78 (by kernel_rfl) rfl) v (nums xs) (xs.map fun n => !inR lo hi n) _ (by simp [nums]) ((hv.below hb2).mono hb2.size) hT
  have e : Hid ((!xs.any fun n => !inR lo hi n) = xs.all (inR lo hi)) := List.all_eq_not_any_not.symm
  have HB := Lib.hid hb2
  clear hv hT hb2
  go_enter Tryz.func63, Tryz.ntmps63
  go_wp2_with (go_at_call 77; refine c.mono ?_; rintro e w' ⟨rfl, hb⟩)
  go_ret
  exact ⟨ret_b e.out, HB.out.trans (hb.mono HB.out.size)⟩

/-- Is a list a relation? -/
def isRel (xs : List Int) : Bool := decide (xs.length ≤ 24) && xs.all (inR 0 ((p2 xs.length : Int) - 1))
theorem IsRelation_c (v : Value) (xs : List Int) (w : World) (hv : Rd w w.heap.size v (nums xs)) :
    Calls Tryz.prog 59 #[v] w fun e w' => e = .returned (.bool (isRel xs)) ∧ Below w.heap.size w w' := by
  have cl := length_c v (nums xs) _ w hv
  obtain ⟨A, c, rfl, h1, h2, HC⟩ := hv.cells
  rw [nums_length] at h1 h2 hv cl ⊢
  by_cases h : xs.length ≤ 24
  · have hp1 := p2_pos xs.length
    have hp2 : p2 xs.length ≤ 16777216 := p2_le h
    have ca := allIn_c _ xs 0 ((p2 xs.length : Int) - 1) w hv
    have co := one_c xs.length (by omega) w
    have e : Hid (xs.all (inR 0 ((p2 xs.length : Int) - 1)) = isRel xs) := by simp [Hid, isRel, h]
    clear hv HC
    go_enter Tryz.func59, Tryz.ntmps59
    go_wp2_with (first
      | (go_at_call 58; refine cl.mono ?_; rintro e w' ⟨rfl, rfl⟩)
      | (go_at_call 68; refine co.mono ?_; rintro e w' ⟨rfl, rfl⟩)
      | (go_at_call 63; refine ca.mono ?_; rintro e w' ⟨rfl, hb⟩))
    go_ret
    exact ⟨ret_b e.out, hb⟩
  · have e : isRel xs = false := by simp [isRel]; omega
    have E := Lib.hid e
    clear e hv HC
    go_enter Tryz.func59, Tryz.ntmps59
    go_wp2
    go_ret
    exact ⟨ret_b E.out.symm, Below.refl _ _⟩
end Go.Proofs.YtopfcpnilblieaaGreatDoor
