/- slices.Sorted(slices.Values(xs)) -/
import Derived.Test.YtopfcpnilblieaaGreatDoorIter
import Derived.Test.YtopfcpnilblieaaGreatDoorShelf
import Derived.Lib.SlKeysI
namespace Go.Proofs.YtopfcpnilblieaaGreatDoor
open Go.RowKit Go.Sort

/-- The numbers in ascending order. -/
def sortI (xs : List Int) : List Int := xs.mergeSort fun x y => decide (x ≤ y)
theorem sortI_length (xs : List Int) : (sortI xs).length = xs.length := by simp [sortI]

theorem Values_c (A : Option Addr) (len cap : Nat) (w : World) : Calls Tryz.prog 36 #[.slice A len cap] w fun e w' => e = .returned (.func (.func 67) #[] #[.pointer (some ⟨w.heap.size, 0, none⟩)]) ∧ w' = w.alloc (.cells #[.slice A len cap] 24) :=
  (callsIn_wide (n := 4)).1 (values_in Fence.wide 4 trivial rfl A len cap w)

theorem AppendSeq_c (Bs c : Nat) (A : Option Addr) (xs : List Int) (hlen : xs.length ≤ 1000000) (w : World) (hBs : Bs < w.heap.size) (hc : w.cell? ⟨Bs, 0, none⟩ = some (.slice A xs.length c)) (HC : Cells w 0 w.heap.size A (nums xs)) :
    Calls Tryz.prog 79 #[.slice none 0 0, .func (.func 67) #[] #[.pointer (some ⟨Bs, 0, none⟩)]] w (OutRow 2 (nums xs) w) :=
  ((callsIn_wide (n := 6)).1 (appendSeq_in Fence.wide 6 trivial rfl (by omega) 67 _ trivial (enters_of Tryz.func67 (by kernel_rfl) rfl) xs hlen w.heap.size w (Nat.le_refl _)
    (values_stops Fence.wide 5 trivial rfl (by omega) Bs w.heap.size c A xs hlen w hBs (Nat.le_refl _) hc HC))).mono fun e w' ⟨v, he, ho, hb⟩ => ⟨v, he, by rw [Own, nums_length]; exact ho, hb⟩

theorem Collect_c (Bs c : Nat) (A : Option Addr) (xs : List Int) (hlen : xs.length ≤ 1000000) (w : World) (hBs : Bs < w.heap.size) (hc : w.cell? ⟨Bs, 0, none⟩ = some (.slice A xs.length c)) (HC : Cells w 0 w.heap.size A (nums xs)) :
    Calls Tryz.prog 65 #[.func (.func 67) #[] #[.pointer (some ⟨Bs, 0, none⟩)]] w (OutRow 2 (nums xs) w) := by
  have ca := AppendSeq_c Bs c A xs hlen w hBs hc HC
  clear hc
  go_enter Tryz.func65, Tryz.ntmps65
  go_wp2_with (go_at_call 79; refine ca.mono ?_; rintro e w' ⟨v, rfl, HO, HB⟩)
  go_ret
  exact ⟨v, rfl, HO, HB⟩

theorem Sorted_c (Bs c : Nat) (A : Option Addr) (xs : List Int) (hlen : xs.length ≤ 1000000) (w : World) (hBs : Bs < w.heap.size) (hc : w.cell? ⟨Bs, 0, none⟩ = some (.slice A xs.length c)) (HC : Cells w 0 w.heap.size A (nums xs)) :
    Calls Tryz.prog 35 #[.func (.func 67) #[] #[.pointer (some ⟨Bs, 0, none⟩)]] w (OutRow 2 (nums (sortI xs)) w) := by
  have cc := Collect_c Bs c A xs hlen w hBs hc HC
  clear hc
  go_enter Tryz.func35, Tryz.ntmps35
  go_wp2_with (go_at_call 65; refine cc.mono ?_; rintro e W ⟨v, rfl, HO, HB⟩)
  rcases HO.2 with ⟨rfl, hz⟩ | ⟨gb, cap, cur, rfl, hbase, hgb, r1, r2, r3, r4⟩
  · have hxs : xs = [] := List.eq_nil_of_length_eq_zero (by rw [nums_length] at hz; exact hz)
    subst hxs
    have cs := Tryz.slices_Sort_int_none none 0 W
    go_wp2_with (go_at_call 66; refine cs.mono ?_; rintro e w' ⟨rfl, hw⟩; subst hw)
    go_ret
    exact ⟨_, rfl, by simpa [sortI] using HO, HB⟩
  · have hH : Holds (Value.int .i64) W gb 0 xs.toArray := holds_of_block_i hgb (by simpa [nums] using r4)
    have hgl : gb < W.heap.size := (Array.getElem?_eq_some_iff.1 hgb).1
    have cs := Tryz.slices_Sort_int gb 0 cap xs W hH hgl (by omega)
    rw [nums_length] at HO r1 ⊢
    refine cs.mono ?_
    rintro e w' ⟨rfl, nn, os, rfl⟩
    go_wp2
    go_ret
    have ho := ownsRow_sorted_i (ts := sortI xs) (ss := xs) (n := nn) (os := os) (sortI_length xs) hbase hgb r1 r2 r3
    refine ⟨_, rfl, ?_, HB.grown (grownBy_sorted_i _) HB.size (fun j hj => by cases hj; exact hbase)⟩
    rw [Own, nums_length, sortI_length]
    exact ho
end Go.Proofs.YtopfcpnilblieaaGreatDoor
