/- the sources of the draws: spec.l01Source and laws.dice -/
import Derived.Test.YtopfcpnilblieaaGreatDoorSpec1
namespace Go.Proofs.YtopfcpnilblieaaGreatDoor
open Go.RowKit

theorem nums_set (xs : List Int) (k : Nat) (m : Int) : (nums xs).set k (.int .i64 m) = nums (xs.set k m) := by simp [nums, List.map_set]
theorem addr_block (a : Addr) (n : Nat) : (a.add n).block = a.block := by unfold Addr.add; split <;> rfl
/-- A list of bytes that came in or was made: its cells, in blocks below L. -/
structure Bytes (w : World) (L : Nat) (A : Option Addr) (n : Nat) : Prop where
  at_ : ∀ j, j < n → ∃ (a : Addr) (b : Nat), A = some a ∧ a.block < L ∧ b < 256 ∧ w.cell? (a.add j) = some (.int .u8 (b : Int))
theorem Bytes.below {w w' : World} {L B : Nat} {A : Option Addr} {n : Nat} (h : Bytes w L A n) (hb : Below B w w') (hL : L ≤ B) : Bytes w' L A n :=
  ⟨fun j hj => by
    obtain ⟨a, b, e, hl, hb2, hc⟩ := h.at_ j hj
    exact ⟨a, b, e, hl, hb2, (hb.cell (p := a.add j) (by rw [addr_block]; omega)).trans hc⟩⟩
theorem Bytes.grown {w w' : World} {L g : Nat} {A : Option Addr} {n : Nat} (h : Bytes w L A n) (hg : w.grownBy w' (some g)) (hL : L ≤ g) : Bytes w' L A n :=
  ⟨fun j hj => by
    obtain ⟨a, b, e, hl, hb2, hc⟩ := h.at_ j hj
    exact ⟨a, b, e, hl, hb2, hg.cell hc (by rw [addr_block]; intro e2; injection e2; omega)⟩⟩

theorem Bytes.mono {w : World} {L L' : Nat} {A : Option Addr} {n : Nat} (h : Bytes w L A n) (hL : L ≤ L') : Bytes w L' A n :=
  ⟨fun j hj => by
    obtain ⟨a, b, e, hl, hb2, hc⟩ := h.at_ j hj
    exact ⟨a, b, e, by omega, hb2, hc⟩⟩
/-- A source of draws in block g: the code, how far it is read, the number that turns. -/
structure Src (w : World) (g : Nat) : Prop where
  lt : g < w.heap.size
  ex : ∃ (A : Option Addr) (n c at_ h : Nat), w.cell? ⟨g, 0, none⟩ = some (.slice A n c) ∧ w.cell? ⟨g, 1, none⟩ = some (.int .i64 (at_ : Int)) ∧ w.cell? ⟨g, 2, none⟩ = some (.int .u64 (h : Int)) ∧
    n ≤ 4096 ∧ at_ ≤ n ∧ h < 18446744073709551616 ∧ w.frozen? ⟨g, 1, none⟩ = false ∧ w.frozen? ⟨g, 2, none⟩ = false ∧ Bytes w g A n
theorem Src.below {w w' : World} {g B : Nat} (h : Src w g) (hb : Below B w w') (hg : g < B) : Src w' g := by
  obtain ⟨A, n, c, a, x, h0, h1, h2, h3, h4, h5, f1, f2, hB⟩ := h.ex
  exact ⟨Nat.lt_of_lt_of_le h.lt hb.size, A, n, c, a, x, (hb.cell (p := ⟨g, 0, none⟩) hg).trans h0, (hb.cell (p := ⟨g, 1, none⟩) hg).trans h1, (hb.cell (p := ⟨g, 2, none⟩) hg).trans h2, h3, h4, h5,
    (hb.frozen (p := ⟨g, 1, none⟩) hg).trans f1, (hb.frozen (p := ⟨g, 2, none⟩) hg).trans f2, hB.below hb (Nat.le_of_lt hg)⟩
theorem Src.step {w w' : World} {g : Nat} (h : Src w g) (hb : Below w.heap.size w w') : Src w' g := h.below hb h.lt

/-- What turns is the source's block alone (and what is new). -/
abbrev Only (w w' : World) (g : Nat) : Prop := w.grownBy w' (some g)
theorem Only.below {w w' : World} {g B : Nat} (h : Only w w' g) (hB : B ≤ g) (hs : B ≤ w.heap.size) : Below B w w' := (Below.refl B w).grown h hs (fun k hk => by cases hk; exact hB)
theorem only_below {w w' : World} {g : Nat} (h : Below w.heap.size w w') : Only w w' g := ⟨h.os, h.tape, h.output, h.size, fun i hi _ => h.block i hi⟩
theorem Only.trans {a b c : World} {g : Nat} (h : Only a b g) (k : Only b c g) : Only a c g := World.grownBy.trans h k
theorem Only.add {a b c : World} {g : Nat} (h : Only a b g) (k : Below b.heap.size b c) : Only a c g := h.trans (only_below k)

theorem grown_set (W : World) (b o : Nat) (v : Value) : W.grownBy (W.setCell ⟨b, o, none⟩ v) (some b) :=
  ⟨rfl, rfl, rfl, by simp [go_sem], fun k _ hk => Below.heap_setCell W ⟨b, o, none⟩ v k (fun e => hk (by rw [e]))⟩
theorem turn_u64 (h : Nat) : ∃ h1 : Nat, h1 < 18446744073709551616 ∧ IntKind.u64.wrap (IntKind.u64.wrap ((h : Int) * 6364136223846793005) + 1442695040888963407) = (h1 : Int) := by
  refine ⟨(IntKind.u64.wrap (IntKind.u64.wrap ((h : Int) * 6364136223846793005) + 1442695040888963407)).toNat, ?_, ?_⟩ <;> rw [IntKind.wrap_u64] <;> omega
theorem low24 (h : Nat) (hh : h < 18446744073709551616) : ∃ m : Nat, m < 16777216 ∧ Go.bits .and .u64 ((h : Int) / 8589934592) 16777215 = (m : Int) := by
  have e := bits_and_u64_nat (h / 8589934592) 16777215 (by omega) (by decide)
  refine ⟨(h / 8589934592) &&& 16777215, Nat.lt_of_le_of_lt Nat.and_le_right (by decide), ?_⟩
  rw [← e]
  simp

theorem set_other {w : World} {g i j : Nat} (_h : i ≠ j) (v : Value) : (w.setCell ⟨g, i, none⟩ v).cell? ⟨g, j, none⟩ = w.cell? ⟨g, j, none⟩ := by
  simp [go_sem]
theorem Src.drewN {w : World} {g : Nat} (h : Src w g) (q : Nat) : Src (w.drewN q) g := h.below (below_drewN (Below.refl _ w) q) h.lt
theorem Src.drew {w : World} {g : Nat} (h : Src w g) : Src w.drew g := h.below (Below.refl _ w).drew h.lt
theorem only_drewN {w : World} {g q : Nat} : Only w (w.drewN q) g := only_below (below_drewN (Below.refl _ w) q)
theorem Src.set2 {w : World} {g : Nat} (h : Src w g) {x : Nat} (hx : x < 18446744073709551616) : Src (w.setCell ⟨g, 2, none⟩ (.int .u64 (x : Int))) g := by
  obtain ⟨A, n, c, a, y, h0, h1, h2, h3, h4, h5, f1, f2, hB⟩ := h.ex
  refine ⟨by simpa [go_sem] using h.lt, A, n, c, a, x, ?_, ?_, ?_, h3, h4, hx, ?_, ?_, hB.grown (grown_set w g 2 _) (Nat.le_refl _)⟩ <;> simp [go_sem, *]
theorem Src.set1 {w : World} {g : Nat} {A : Option Addr} {n c a : Nat} (h : Src w g) (h0 : w.cell? ⟨g, 0, none⟩ = some (.slice A n c)) (ha : a ≤ n) : Src (w.setCell ⟨g, 1, none⟩ (.int .i64 (a : Int))) g := by
  obtain ⟨A', n', c', a', y, h0', h1, h2, h3, h4, h5, f1, f2, hB⟩ := h.ex
  rw [h0'] at h0
  cases h0
  refine ⟨by simpa [go_sem] using h.lt, A, n, c, a, y, ?_, ?_, ?_, h3, ha, h5, ?_, ?_, hB.grown (grown_set w g 1 _) (Nat.le_refl _)⟩ <;> simp [go_sem, *]
theorem rem_ok {x n : Int} (hn : 1 ≤ n) : ∃ k : Nat, x % n = (k : Int) ∧ (k : Int) < n :=
  ⟨(x % n).toNat, by have := Int.emod_nonneg x (show n ≠ 0 by omega); omega, by have := Int.emod_nonneg x (show n ≠ 0 by omega); have := Int.emod_lt_of_pos x (show 0 < n by omega); omega⟩

theorem Bytes.drew {w : World} {L : Nat} {A : Option Addr} {n : Nat} (h : Bytes w L A n) : Bytes w.drew L A n := h.below (B := L) (Below.refl _ w).drew (Nat.le_refl _)
theorem Bytes.set {w : World} {L o : Nat} {A : Option Addr} {n : Nat} (h : Bytes w L A n) (v : Value) : Bytes (w.setCell ⟨L, o, none⟩ v) L A n := h.grown (grown_set w L o v) (Nat.le_refl _)
theorem next_c (g : Nat) (n : Int) (w : World) (hs : Src w g) (hn : n ≤ 1000000) : Calls Tryz.prog 15 #[.pointer (some ⟨g, 0, none⟩), .int .i64 n] w fun e w' =>
    ∃ k : Nat, e = .returned (.int .i64 (k : Int)) ∧ ((k : Int) < n ∨ n < 1 ∧ k = 0) ∧ Src w' g ∧ Only w w' g := by
  obtain ⟨A, m, c, a, h, h0, h1, h2, h3, h4, h5, f1, f2, HB⟩ := hs.ex
  have hlt := hs.lt
  have HS := Lib.hid hs
  clear hs
  by_cases hn1 : n < 1
  · go_enter Tryz.func15, Tryz.ntmps15
    go_wp2
    go_ret
    exact ⟨0, rfl, .inr ⟨hn1, rfl⟩, HS.out, only_below (Below.refl _ _)⟩
  obtain ⟨h', hh', e1⟩ := turn_u64 h
  obtain ⟨m24, hm24, e2⟩ := low24 h' hh'
  by_cases ha : a < m
  · obtain ⟨ad, b, rfl, hl, hb, hc⟩ := HB.at_ a ha
    have hlt2 : (a : Int) < m := by omega
    have hc2 : ∀ v, (w.setCell ⟨g, 2, none⟩ v).cell? (ad.add a) = some (.int .u8 (b : Int)) := fun v => (grown_set w g 2 v).cell hc (by rw [addr_block]; intro e2; injection e2; omega)
    obtain ⟨k, hk, hkn⟩ := rem_ok (x := (m24 : Int) + b) (n := n) (by omega)
    have HK := Lib.hid hk
    clear hk
    go_enter Tryz.func15, Tryz.ntmps15
    go_wp2
    go_quiet (fail)
    go_wp2
    go_quiet (fail)
    go_wp2
    go_ret
    exact ⟨k, ret_i HK.out, .inl hkn, (Src.set1 (A := some ad) (n := m) (c := c) ((HS.out.set2 hh').drewN _) (a := a + 1) (by simp [go_sem, h0]) (by omega)), (grown_set _ _ _ _).trans (only_drewN.trans (grown_set _ _ _ _))⟩
  · have hlt2 : ¬ (a : Int) < m := by omega
    obtain ⟨k, hk, hkn⟩ := rem_ok (x := (m24 : Int)) (n := n) (by omega)
    have HK := Lib.hid hk
    clear hk
    go_enter Tryz.func15, Tryz.ntmps15
    go_wp2
    go_quiet (fail)
    go_wp2
    go_ret
    exact ⟨k, ret_i HK.out, .inl hkn, (HS.out.set2 hh').drewN _, (grown_set _ _ _ _).trans only_drewN⟩

theorem below_c (g : Nat) (n : Int) (w : World) (hs : Src w g) (hn : n ≤ 1000000) : Calls Tryz.prog 10 #[.pointer (some ⟨g, 0, none⟩), .int .i64 n] w fun e w' =>
    ∃ k : Nat, e = .returned (.int .i64 (k : Int)) ∧ ((k : Int) < n ∨ n < 1 ∧ k = 0) ∧ Src w' g ∧ Only w w' g := by
  obtain ⟨A, m, c, a, h, h0, h1, h2, h3, h4, h5, f1, f2, HB⟩ := hs.ex
  have hlt := hs.lt
  have HS := Lib.hid hs
  clear hs
  by_cases hn1 : n < 1
  · go_enter Tryz.func10, Tryz.ntmps10
    go_wp2
    go_ret
    exact ⟨0, rfl, .inr ⟨hn1, rfl⟩, HS.out, only_below (Below.refl _ _)⟩
  obtain ⟨h', hh', e1⟩ := turn_u64 h
  obtain ⟨m24, hm24, e2⟩ := low24 h' hh'
  by_cases ha : a < m
  · obtain ⟨ad, b, rfl, hl, hb, hc⟩ := HB.at_ a ha
    have hlt2 : (a : Int) < m := by omega
    have hc2 : ∀ v, (w.setCell ⟨g, 2, none⟩ v).cell? (ad.add a) = some (.int .u8 (b : Int)) := fun v => (grown_set w g 2 v).cell hc (by rw [addr_block]; intro e2; injection e2; omega)
    obtain ⟨k, hk, hkn⟩ := rem_ok (x := (m24 : Int) + b) (n := n) (by omega)
    have HK := Lib.hid hk
    clear hk
    go_enter Tryz.func10, Tryz.ntmps10
    go_wp2
    go_quiet (fail)
    go_wp2
    go_quiet (fail)
    go_wp2
    go_ret
    exact ⟨k, ret_i HK.out, .inl hkn, (Src.set1 (A := some ad) (n := m) (c := c) ((HS.out.set2 hh').drewN _) (a := a + 1) (by simp [go_sem, h0]) (by omega)), (grown_set _ _ _ _).trans (only_drewN.trans (grown_set _ _ _ _))⟩
  · have hlt2 : ¬ (a : Int) < m := by omega
    obtain ⟨k, hk, hkn⟩ := rem_ok (x := (m24 : Int)) (n := n) (by omega)
    have HK := Lib.hid hk
    clear hk
    go_enter Tryz.func10, Tryz.ntmps10
    go_wp2
    go_quiet (fail)
    go_wp2
    go_ret
    exact ⟨k, ret_i HK.out, .inl hkn, (HS.out.set2 hh').drewN _, (grown_set _ _ _ _).trans only_drewN⟩

end Go.Proofs.YtopfcpnilblieaaGreatDoor
