/- append in a region that draws its order -/
import Derived.Test.YtopfcpnilblieaaGreatDoorMem
import Derived.Deep.RegionHeld3
import Derived.Deep.RegionLaw
namespace Go.Proofs.YtopfcpnilblieaaGreatDoor
open Go.RowKit

theorem Below.grown_of {w W w' : World} {B : Nat} (hb : Below B w W) (hB : B ≤ W.heap.size) {row : Option Nat} (hg : W.grownBy w' row) (hr : ∀ k, row = some k → B ≤ k) : Below B w w' := hb.grown hg hB hr

section
variable {ops : Array Oper} {o : Oper} {a : Act} {K : Act → World → Prop} {Q : Exit → Act → World → Prop} {E : Prop}
/-- append(v, y) at a step of a region that draws: v a row of the call's own, y's cell in a new block b. -/
theorem step_app1 {w0 W : World} {B : Nat} {v : Value} {xs : List Value} (HO : Own W B 2 v xs) {B0 : Nat} (HB : Below B0 w0 W) (hB0 : B0 ≤ B) (hbase : B ≤ W.heap.size) (hl : Room xs.length) (b : Nat) (y : Int)
    (hc : W.heap[b]? = some (.cells #[.int .i64 y] 2 (0, 0)))
    (t : Nat) (ht : Tryz.prog.underlying t = some (.slice 2)) (hgd : o.guard = none) (s x : Operand) (ho : o.op = .call { callee := .builtin .append, args := #[s, x], argTypes := #[t, t] })
    (hs : a.eval s = v) (hx : a.eval x = .slice (some ⟨b, 0, none⟩) 1 1)
    (h : ∀ g cap w1, Own w1 B 2 (.slice (some ⟨g, 0, none⟩) (xs.length + 1) cap) (xs ++ [.int .i64 y]) → Below B0 w0 w1 → W.grownBy w1 v.ownBlock → (v.ownBlock = some g ∨ W.heap.size ≤ g) → K (a.put o.dst (.slice (some ⟨g, 0, none⟩) (xs.length + 1) cap)) w1) :
    if Region.wanted o (yielded ops a.tmps) = true then Oper.wp Tryz.prog o a W K Q else E := by
  obtain ⟨i0, hi, hz0, hz1, hz2⟩ := info_parts infoInt
  unfold Room at hl
  refine step_append_lies W hgd s x t ho B 2 i0 (.int .i64 0) 1 8 ht hi hz0 hz1 hz2 rfl (by decide) v xs.length xs hs HO ⟨b, 0, none⟩ 1 1 [.int .i64 y] hx rfl
    (World.news_of_block hc) (by simp [Value.oneCell']) (by decide) (by simp only [maxLen]; omega) (by omega) hbase _ rfl ?_
  intro g cap w1 hown hg hat _
  refine h g cap w1 (by simpa [Own] using hown) (HB.grown hg (Nat.le_trans hB0 hbase) (fun k hk => Nat.le_trans hB0 (World.ownsRow.lt HO k hk).1)) hg ?_
  rcases hat with hat | hat
  · exact .inl hat
  · exact .inr (by omega)
end

/-- There is room for so many elements. -/
def Room2 (n m : Nat) : Prop := n + m ≤ 17592186044416
theorem room2 {n m : Nat} (h : n + m ≤ 1000000000) : Room2 n m := by unfold Room2; omega
theorem run_app_nil (W : World) (B t ty : Nat) (ht : Tryz.prog.underlying t = some (.slice 2)) (v : Value) (xs : List Value) (HO : Own W B 2 v xs) (c : Nat) :
    (Builtin.append_ #[t, t] ty #[v, .slice none 0 c]).run Tryz.prog W = .ok v W := by
  obtain ⟨i0, hi, _, _, _⟩ := info_parts infoInt
  rcases HO.2 with ⟨rfl, h0⟩ | ⟨g, cap, cur, rfl, _, _, hnc, _⟩
  · simp [Builtin.append_, run_underlying ht, sizeOf, typeInfo, hi, Builtin.lenOf, Builtin.firstCells]
  · simp [Builtin.append_, run_underlying ht, sizeOf, typeInfo, hi, Builtin.lenOf, Builtin.firstCells, hnc, storeCells]
/-- append(v, ys...), v a row of the call's own, ys whatever is read. -/
theorem run_app_all (W : World) (B t ty : Nat) (ht : Tryz.prog.underlying t = some (.slice 2)) (v : Value) (xs : List Value) (HO : Own W B 2 v xs) (hbase : B ≤ W.heap.size)
    (L M c : Nat) (A : Option Addr) (ys : List Int) (HC : Cells W L M A (nums ys)) (hA : A = none → ys = []) (hl : Room2 xs.length ys.length) :
    ∃ v1 w1, (Builtin.append_ #[t, t] ty #[v, .slice A ys.length c]).run Tryz.prog W = .ok v1 w1 ∧ Own w1 B 2 v1 (xs ++ nums ys) ∧ W.grownBy w1 v.ownBlock ∧ (v1.ownBlock = v.ownBlock ∨ v1.ownBlock = some W.heap.size) := by
  unfold Room2 at hl
  obtain ⟨i0, hi, hz0, hz1, hz2⟩ := info_parts infoInt
  cases A with
  | none =>
    obtain rfl := hA rfl
    exact ⟨v, W, run_app_nil W B t ty ht v xs HO c, by simpa [nums] using HO, World.grownBy.refl W _, .inl rfl⟩
  | some ad =>
    have hcells : ∀ j u, (nums ys)[j]? = some u → W.cell? (ad.add j) = some u := by
      intro j u hj
      obtain ⟨b, o, e, _, _, hc⟩ := HC.at_ j u hj
      cases e
      have hadd : (⟨b, o, none⟩ : Addr).add j = ⟨b, o + j, none⟩ := by unfold Addr.add; split <;> simp_all
      rw [hadd]; exact hc
    obtain ⟨v1, w1, hr, h2, h3, _, h5⟩ := run_append_own_at (P := Tryz.prog) W B t ty 2 i0 (.int .i64 0) 1 8 ht hi hz0 hz1 hz2 rfl (by decide) v xs.length xs HO ad ys.length c (nums ys) (by rw [nums_length]; omega) hcells
      (by intro u hu; simp only [nums, List.mem_map] at hu; obtain ⟨y, _, rfl⟩ := hu; rfl) (by simp only [maxLen]; omega) (by omega) hbase
    exact ⟨v1, w1, hr, by simpa [Own, nums_length] using h2, h3, h5⟩
section
variable {ops : Array Oper} {rest : List Oper} {o : Oper} {a : Act} {K : Act → World → Prop} {Q : Exit → Act → World → Prop} {E : Prop}
theorem wp_app_all {w0 W : World} {B B0 L M c : Nat} {v : Value} {xs : List Value} {A : Option Addr} {ys : List Int} (HO : Own W B 2 v xs) (HB : Below B0 w0 W) (hB0 : B0 ≤ B) (hbase : B ≤ W.heap.size)
    (HC : Cells W L M A (nums ys)) (hA : A = none → ys = []) (hl : Room2 xs.length ys.length) (t : Nat) (ht : Tryz.prog.underlying t = some (.slice 2)) (s x : Operand)
    (ho : o.op = .call { callee := .builtin .append, args := #[s, x], argTypes := #[t, t] }) (hs : a.eval s = v) (hx : a.eval x = .slice A ys.length c)
    (h : ∀ v1 w1, Own w1 B 2 v1 (xs ++ nums ys) → Below B0 w0 w1 → W.grownBy w1 v.ownBlock → (v1.ownBlock = v.ownBlock ∨ v1.ownBlock = some W.heap.size) → K (a.put o.dst v1) w1) : o.wp Tryz.prog a W K Q := by
  obtain ⟨v1, w1, hr, h2, h3, h4⟩ := run_app_all W B t o.type ht v xs HO hbase L M c A ys HC hA hl
  unfold Oper.wp execOp
  simp only [ho, resolve, invoke, builtin, Sem.run_bind, Sem.run_pure, Result.andThen_ok, List.map_toArray, List.map_cons, List.map_nil, hs, hx, hr]
  exact h v1 w1 h2 (HB.grown h3 (Nat.le_trans hB0 hbase) (fun k hk => Nat.le_trans hB0 (World.ownsRow.lt HO k hk).1)) h3 h4
theorem app_all {w0 W : World} {B B0 L M c : Nat} {v : Value} {xs : List Value} {A : Option Addr} {ys : List Int} (HO : Own W B 2 v xs) (HB : Below B0 w0 W) (hB0 : B0 ≤ B) (hbase : B ≤ W.heap.size)
    (HC : Cells W L M A (nums ys)) (hA : A = none → ys = []) (hl : Room2 xs.length ys.length) (t : Nat) (ht : Tryz.prog.underlying t = some (.slice 2)) (hgd : o.guard = none) (s x : Operand)
    (ho : o.op = .call { callee := .builtin .append, args := #[s, x], argTypes := #[t, t] }) (hs : a.eval s = v) (hx : a.eval x = .slice A ys.length c)
    (h : ∀ v1 w1, Own w1 B 2 v1 (xs ++ nums ys) → Below B0 w0 w1 → W.grownBy w1 v.ownBlock → (v1.ownBlock = v.ownBlock ∨ v1.ownBlock = some W.heap.size) → wpList Tryz.prog ops Q rest (a.put o.dst v1) w1) : wpList Tryz.prog ops Q (o :: rest) a W :=
  wpList_plain hgd fun _ hK => wp_app_all HO HB hB0 hbase HC hA hl t ht s x ho hs hx fun v1 w1 h1 h2 h3 h4 => hK _ _ (h v1 w1 h1 h2 h3 h4)
theorem step_app_all {w0 W : World} {B B0 L M c : Nat} {v : Value} {xs : List Value} {A : Option Addr} {ys : List Int} (HO : Own W B 2 v xs) (HB : Below B0 w0 W) (hB0 : B0 ≤ B) (hbase : B ≤ W.heap.size)
    (HC : Cells W L M A (nums ys)) (hA : A = none → ys = []) (hl : Room2 xs.length ys.length) (t : Nat) (ht : Tryz.prog.underlying t = some (.slice 2)) (hgd : o.guard = none) (s x : Operand)
    (ho : o.op = .call { callee := .builtin .append, args := #[s, x], argTypes := #[t, t] }) (hs : a.eval s = v) (hx : a.eval x = .slice A ys.length c)
    (h : ∀ v1 w1, Own w1 B 2 v1 (xs ++ nums ys) → Below B0 w0 w1 → W.grownBy w1 v.ownBlock → (v1.ownBlock = v.ownBlock ∨ v1.ownBlock = some W.heap.size) → K (a.put o.dst v1) w1) :
    if Region.wanted o (yielded ops a.tmps) = true then Oper.wp Tryz.prog o a W K Q else E := by
  have hw : Region.wanted o (yielded ops a.tmps) = true := by simp [Region.wanted, hgd]
  rw [if_pos hw]
  exact wp_app_all HO HB hB0 hbase HC hA hl t ht s x ho hs hx h
end
theorem Rd.nil_of {w : World} {B c : Nat} {A : Option Addr} {xs : List Value} (h : Rd w B (.slice A xs.length c) xs) (e : A = none) : xs = [] := by
  obtain ⟨A', c', he, _, _, h4⟩ := h
  cases he
  cases xs with
  | nil => rfl
  | cons x xs =>
    obtain ⟨b, o, e2, _⟩ := h4 (by simp)
    rw [e] at e2; cases e2
end Go.Proofs.YtopfcpnilblieaaGreatDoor
