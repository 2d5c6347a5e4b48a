import Derived.Test.YtopfcpnilblieaaGreatDoorSmall
import Derived.Maps.AppendAt
import Derived.Deep.AppendLies
import Derived.OwnWalk
import Derived.Laws.OwnMore
import Derived.Laws.MakeOwn
import Derived.KernelRfl
import Derived.Deep.OwnRows
import Derived.Deep.Draws
namespace Go.Proofs.YtopfcpnilblieaaGreatDoor
open Go.RowKit

/-! ### Lists of values -/
def nums (xs : List Int) : List Value := xs.map fun x => .int .i64 x
def nats (xs : List Nat) : List Value := xs.map fun (n : Nat) => .int .i64 (n : Int)
theorem nums_length (xs : List Int) : (nums xs).length = xs.length := by simp [nums]
theorem nats_length (xs : List Nat) : (nats xs).length = xs.length := by simp [nats]
theorem nums_get {xs : List Int} {i : Nat} (h : i < xs.length) : (nums xs)[i]? = some (.int .i64 xs[i]) := by simp [nums, h]
theorem nats_get {xs : List Nat} {i : Nat} (h : i < xs.length) : (nats xs)[i]? = some (.int .i64 ((xs[i] : Nat) : Int)) := by simp [nats, h]
theorem nats_append (xs ys : List Nat) : nats (xs ++ ys) = nats xs ++ nats ys := by simp [nats]
theorem nums_append (xs ys : List Int) : nums (xs ++ ys) = nums xs ++ nums ys := by simp [nums]
theorem nats_nums (xs : List Nat) : nats xs = nums (xs.map fun (n : Nat) => (n : Int)) := by simp [nats, nums, Function.comp_def]

/-! ### A slice that is read: nil, empty and others alike; below block B -/
def Rd (w : World) (B : Nat) (v : Value) (xs : List Value) : Prop :=
  ∃ A c, v = .slice A xs.length c ∧ xs.length ≤ c ∧ xs.length ≤ 9223372036854775807 ∧
    (0 < xs.length → ∃ b o, A = some ⟨b, o, none⟩ ∧ b < B ∧ ∀ j u, xs[j]? = some u → w.cell? ⟨b, o + j, none⟩ = some u)
theorem Rd.below {w w' : World} {B : Nat} {v : Value} {xs : List Value} (h : Rd w B v xs) (hb : Below B w w') : Rd w' B v xs := by
  obtain ⟨A, c, h1, h2, h3, h4⟩ := h
  refine ⟨A, c, h1, h2, h3, fun h0 => ?_⟩
  obtain ⟨b, o, e, hB, hc⟩ := h4 h0
  exact ⟨b, o, e, hB, fun j u hj => (hb.cell (p := ⟨b, o + j, none⟩) hB).trans (hc j u hj)⟩
theorem Rd.mono {w : World} {B B' : Nat} {v : Value} {xs : List Value} (h : Rd w B v xs) (hB : B ≤ B') : Rd w B' v xs := by
  obtain ⟨A, c, h1, h2, h3, h4⟩ := h
  refine ⟨A, c, h1, h2, h3, fun h0 => ?_⟩
  obtain ⟨b, o, e, hb, hc⟩ := h4 h0
  exact ⟨b, o, e, Nat.lt_of_lt_of_le hb hB, hc⟩
/-- What is read stays read while all that lay there lies. -/
theorem Rd.step {w w' : World} {v : Value} {xs : List Value} (h : Rd w w.heap.size v xs) (hb : Below w.heap.size w w') : Rd w' w'.heap.size v xs := (h.below hb).mono hb.size

/-! ### A row of the call's own -/
abbrev Own (w : World) (base T : Nat) (v : Value) (xs : List Value) : Prop := w.ownsRow base T 1 v xs.length xs
theorem Own.nil (w : World) (base T : Nat) : Own w base T (.slice none 0 0) [] := World.ownsRow_nil w base T 1
theorem Own.rd {w : World} {base T : Nat} {v : Value} {xs : List Value} (h : Own w base T v xs) : Rd w w.heap.size v xs := by
  rcases h.2 with ⟨rfl, h0⟩ | ⟨g, cap, cur, rfl, hb, hh, h1, h2, h3, h4⟩
  · exact ⟨none, 0, by rw [h0], by omega, by omega, fun hp => by omega⟩
  · refine ⟨some ⟨g, 0, none⟩, cap, rfl, h1, by simp only [maxLen] at h2; omega, fun h0 => ⟨g, 0, rfl, (Array.getElem?_eq_some_iff.1 hh).1, fun j u hj => ?_⟩⟩
    have hj' : j < xs.length := (List.getElem?_eq_some_iff.1 hj).1
    have := World.ownsRow.cellAt (g := g) (cap := cap) h j (by omega)
    rw [Nat.zero_add, this, hj]

/-- The type of []int64's elements. -/
theorem infoInt : (Tryz.prog.info? 2).map (fun i => (i.zero, i.size, i.bytes)) = some (some (.int .i64 0), 1, 8) := by kernel_rfl

/-- There is room for one element more. -/
def Room (n : Nat) : Prop := n + 1 ≤ 17592186044416
theorem room {n : Nat} (h : n ≤ 1000000000) : Room n := by unfold Room; omega

section
variable {ops : Array Oper} {rest : List Oper} {o : Oper} {a : Act} {Q : Exit → Act → World → Prop}
/-- append(v, y), v a row of the call's own. -/
theorem app_int {w0 W : World} {B : Nat} {v : Value} {xs : List Value} (HO : Own W B 2 v xs) (HB : Below B w0 W) (hbase : B ≤ W.heap.size) (hl : Room xs.length)
    (t : Nat) (ht : Tryz.prog.underlying t = some (.slice 2)) (hgd : o.guard = none) (s x : Operand) (ho : o.op = .call { callee := .builtin .append, args := #[s, x], argTypes := #[t, t] })
    (y : Int) (hs : a.eval s = v) (hx : a.eval x = .slice (some ⟨W.heap.size, 0, none⟩) 1 1)
    (h : ∀ v1 w1, Own w1 B 2 v1 (xs ++ [.int .i64 y]) → Below B w0 w1 → W.grownBy w1 v.ownBlock → (v1.ownBlock = v.ownBlock ∨ ∃ b, v1.ownBlock = some b ∧ W.heap.size ≤ b) → wpList Tryz.prog ops Q rest (a.put o.dst v1) w1) :
    wpList Tryz.prog ops Q (o :: rest) a (W.alloc (.cells #[.int .i64 y] 2)) := by
  obtain ⟨i0, hi, hz0, hz1, hz2⟩ := info_parts infoInt
  unfold Room at hl
  refine wpList_append_own_at (w := W.alloc (.cells #[.int .i64 y] 2)) hgd s x t ho B 2 i0 (.int .i64 0) 1 8 ht hi hz0 hz1 hz2 rfl (by decide) v xs.length xs hs (HO.alloc _) ⟨W.heap.size, 0, none⟩ 1 1 [.int .i64 y] hx rfl
    (cell_one_new _ _ _) (by simp [Value.oneCell']) (by simp only [maxLen]; omega) (by omega) (by simp; omega) ?_
  intro v1 w1 hown hg _ hat
  have hB1 : Below B w0 (W.alloc (.cells #[.int .i64 y] 2)) := HB.alloc hbase _
  refine h v1 w1 (by simpa [Own] using hown) (hB1.grown hg (by simp; omega) (fun k hk => (World.ownsRow.lt HO k hk).1)) (World.grownBy.trans (World.grownBy_alloc W _ _) hg) ?_
  rcases hat with hat | hat
  · exact .inl hat
  · exact .inr ⟨_, hat, by simp⟩
end
/-- A function hands back a new row; what lay before lies. -/
def OutRow (T : Nat) (xs : List Value) (w : World) (e : Ending) (w' : World) : Prop := ∃ v, e = .returned v ∧ Own w' w.heap.size T v xs ∧ Below w.heap.size w w'

section
variable {w : World} {base T g n cap : Nat} {xs : List Value}
theorem Own.len (h : Own w base T (.slice (some ⟨g, 0, none⟩) n cap) xs) : n = xs.length := by
  rcases h.2 with ⟨h', _⟩ | ⟨g', cap', cur, h', _⟩
  · simp at h'
  · simp only [Value.slice.injEq] at h'
    exact h'.2.1
theorem Own.cellAt (h : Own w base T (.slice (some ⟨g, 0, none⟩) n cap) xs) {j : Nat} {u : Value} (hj : xs[j]? = some u) : w.cell? ⟨g, j, none⟩ = some u := by
  obtain rfl := h.len
  rw [World.ownsRow.cellAt h j (by have := (List.getElem?_eq_some_iff.1 hj).1; omega), hj]
theorem Own.frozenAt (h : Own w base T (.slice (some ⟨g, 0, none⟩) n cap) xs) (j : Nat) : w.frozen? ⟨g, j, none⟩ = false := by
  obtain rfl := h.len
  exact World.ownsRow.frozenAt h j
theorem Own.stored (h : Own w base T (.slice (some ⟨g, 0, none⟩) n cap) xs) (j : Nat) (u : Value) :
    Own (w.setCell ⟨g, j, none⟩ u) base T (.slice (some ⟨g, 0, none⟩) n cap) (xs.set j u) ∧ w.grownBy (w.setCell ⟨g, j, none⟩ u) (some g) := by
  obtain rfl := h.len
  have := World.ownsRow.stored h j u
  simpa [Own] using this
end
theorem below_drewN {B : Nat} {a w : World} (h : Below B a w) (q : Nat) : Below B a (w.drewN q) := ⟨h.os, h.tape, h.output, h.size, h.block⟩
theorem grown_drew {w w' : World} {row : Option Nat} (h : w.grownBy w' row) : w.grownBy w'.drew row := ⟨h.os, h.tape, h.output, h.size, h.block⟩
theorem Own.drew {w : World} {base T : Nat} {v : Value} {xs : List Value} (h : Own w base T v xs) : Own w.drew base T v xs := h
/-- What is written lies elsewhere: the row lives on. -/
theorem Own.below {w w' : World} {base T B : Nat} {v : Value} {xs : List Value} (h : Own w base T v xs) (hb : Below B w w') (hB : w.heap.size ≤ B) : Own w' base T v xs :=
  World.ownsRow.kept (row := none) h ⟨hb.os, hb.tape, hb.output, hb.size, fun k hk _ => hb.block k (Nat.lt_of_lt_of_le hk hB)⟩ (by cases v.ownBlock <;> simp)
theorem Own.base {w : World} {base base' T : Nat} {v : Value} {xs : List Value} (h : Own w base T v xs) (hB : base' ≤ base) : Own w base' T v xs := by
  refine ⟨h.1, ?_⟩
  rcases h.2 with h | ⟨g, cap, cur, h0, h1, h2⟩
  · exact .inl h
  · exact .inr ⟨g, cap, cur, h0, Nat.le_trans hB h1, h2⟩
/-- What a step writes is one row, from B on: below B all lies. -/
theorem below_grown {w w' : World} {B g : Nat} (hg : w.grownBy w' (some g)) (hB : B ≤ g) (hs : B ≤ w.heap.size) : Below B w w' :=
  (Below.refl B w).grown hg hs (fun k hk => by cases hk; exact hB)

/-- The cells of a slice that is read, hidden from the walk: they lie in a block from L on, below B. -/
structure Cells (w : World) (L B : Nat) (A : Option Addr) (xs : List Value) : Prop where
  at_ : ∀ j u, xs[j]? = some u → ∃ b o, A = some ⟨b, o, none⟩ ∧ L ≤ b ∧ b < B ∧ w.cell? ⟨b, o + j, none⟩ = some u
theorem Cells.below {w w' : World} {L B : Nat} {A : Option Addr} {xs : List Value} (h : Cells w L B A xs) (hb : Below B w w') : Cells w' L B A xs :=
  ⟨fun j u hj => by
    obtain ⟨b, o, e, hL, hB, hc⟩ := h.at_ j u hj
    exact ⟨b, o, e, hL, hB, (hb.cell (p := ⟨b, o + j, none⟩) hB).trans hc⟩⟩
theorem Cells.grown {w w' : World} {L B : Nat} {A : Option Addr} {xs : List Value} (h : Cells w L B A xs) {g : Nat} (hg : w.grownBy w' (some g)) (hne : g < L) : Cells w' L B A xs :=
  ⟨fun j u hj => by
    obtain ⟨b, o, e, hL, hB, hc⟩ := h.at_ j u hj
    exact ⟨b, o, e, hL, hB, hg.cell hc (fun e2 => absurd (show b = g by simpa using e2) (by omega))⟩⟩
theorem Cells.mono {w : World} {L L' B B' : Nat} {A : Option Addr} {xs : List Value} (h : Cells w L B A xs) (hL : L' ≤ L) (hB : B ≤ B') : Cells w L' B' A xs :=
  ⟨fun j u hj => by
    obtain ⟨b, o, e, h1, h2, hc⟩ := h.at_ j u hj
    exact ⟨b, o, e, Nat.le_trans hL h1, Nat.lt_of_lt_of_le h2 hB, hc⟩⟩
theorem Rd.cells {w : World} {B : Nat} {v : Value} {xs : List Value} (h : Rd w B v xs) : ∃ A c, v = .slice A xs.length c ∧ xs.length ≤ c ∧ xs.length ≤ 9223372036854775807 ∧ Cells w 0 B A xs := by
  obtain ⟨A, c, e, h1, h2, h3⟩ := h
  refine ⟨A, c, e, h1, h2, ⟨fun j u hj => ?_⟩⟩
  obtain ⟨b, o, e2, hb, hc⟩ := h3 (by have := (List.getElem?_eq_some_iff.1 hj).1; omega)
  exact ⟨b, o, e2, Nat.zero_le _, hb, hc j u hj⟩
theorem Cells.rd {w : World} {L B c : Nat} {A : Option Addr} {xs : List Value} (h : Cells w L B A xs) (h1 : xs.length ≤ c) (h2 : xs.length ≤ 9223372036854775807) : Rd w B (.slice A xs.length c) xs := by
  refine ⟨A, c, rfl, h1, h2, fun h0 => ?_⟩
  obtain ⟨b, o, e, _, hB, _⟩ := h.at_ 0 xs[0] (List.getElem?_eq_getElem h0)
  refine ⟨b, o, e, hB, fun j u hj => ?_⟩
  obtain ⟨b', o', e', _, _, hc⟩ := h.at_ j u hj
  rw [e] at e'
  cases e'
  exact hc
theorem Own.cells {w : World} {base T : Nat} {v : Value} {xs : List Value} (h : Own w base T v xs) : ∃ A c, v = .slice A xs.length c ∧ xs.length ≤ c ∧ xs.length ≤ 9223372036854775807 ∧ Cells w base w.heap.size A xs := by
  rcases h.2 with ⟨rfl, h0⟩ | ⟨g, cap, cur, rfl, hb, hh, h1, h2, h3, h4⟩
  · exact ⟨none, 0, by rw [h0], by omega, by omega, ⟨fun j u hj => by have := (List.getElem?_eq_some_iff.1 hj).1; omega⟩⟩
  · refine ⟨some ⟨g, 0, none⟩, cap, rfl, h1, by simp only [maxLen] at h2; omega, ⟨fun j u hj => ?_⟩⟩
    have hj' : j < xs.length := (List.getElem?_eq_some_iff.1 hj).1
    have := World.ownsRow.cellAt (g := g) (cap := cap) h j (by omega)
    exact ⟨g, 0, rfl, hb, (Array.getElem?_eq_some_iff.1 hh).1, by rw [Nat.zero_add, this, hj]⟩
/-- What a function hands back, laid open to be read. -/
theorem OutRow.read {T : Nat} {xs : List Value} {w w' : World} {e : Ending} (h : OutRow T xs w e w') : ∃ A c, e = .returned (.slice A xs.length c) ∧ xs.length ≤ c ∧ Cells w' w.heap.size w'.heap.size A xs ∧ Below w.heap.size w w' := by
  obtain ⟨v, rfl, HO, HB⟩ := h
  obtain ⟨A, c, rfl, h1, _, h3⟩ := HO.cells
  exact ⟨A, c, rfl, h1, h3, HB⟩

/-- make([]int64, n) -/
theorem make_int (n : Nat) (hn : n ≤ 1000000) : ∀ W : World, (Instr.makeSlice 24 (.int .i64 (n : Int)) (.int .i64 (n : Int))).run Tryz.prog W = .ok (.slice (some ⟨W.heap.size, 0, none⟩) n n) (W.alloc (.cells (madeCells #[.int .i64 0] n) 2)) :=
  fun W => run_make_row' 24 2 (.int .i64 0) 8 Tryz.underlying24 infoInt rfl .i64 .i64 n (by omega) (by omega) W
theorem own_made (W : World) (n : Nat) (hn : n ≤ 1000000) : Own (W.alloc (.cells (madeCells #[.int .i64 0] n) 2)) W.heap.size 2 (.slice (some ⟨W.heap.size, 0, none⟩) n n) (nats (List.replicate n 0)) := by
  have h := World.ownsRow_lit (base := W.heap.size) (e := 2) (size := 1) W (madeCells #[.int .i64 0] n) n (Nat.le_refl _) (by simp only [maxLen]; omega) (by rw [size_madeCells]; omega)
  rw [toList_madeCells_one] at h
  have e : nats (List.replicate n 0) = List.replicate n (.int .i64 0) := by simp [nats]
  unfold Own
  rw [e]
  simpa using h
end Go.Proofs.YtopfcpnilblieaaGreatDoor
