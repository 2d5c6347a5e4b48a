import Derived.Test.YtopfcpnilblieaaGreatDoorAlpha
namespace Go.Proofs.YtopfcpnilblieaaGreatDoor
open Go.RowKit

/-- Is a list a word of n letters? -/
def isWordB (n : Int) (ws : List Int) : Bool := decide (ws.length ≤ 24) && ws.all (inR 0 (n - 1))

theorem isWord_c (n : Int) (vx v : Value) (ws : List Int) (w : World) (hn : 0 ≤ n) (hn8 : n ≤ 8) (hv : Rd w w.heap.size v (nums ws)) :
    Calls Tryz.prog 32 #[.agg #[.int .i64 n, vx], v] w fun e w' => e = .returned (.bool (isWordB n ws)) ∧ Below w.heap.size w w' := by
  have hb1 : Below w.heap.size w (w.alloc (.cells #[.int .i64 n, vx] 26)) := (Below.refl _ w).alloc (Nat.le_refl _) _
  have ca := allIn_c v ws 0 (n - 1) _ ((hv.below hb1).mono hb1.size)
  obtain ⟨A, c, rfl, h1, h2, HC⟩ := hv.cells
  rw [nums_length] at h1 h2 ca ⊢
  by_cases h : ws.length ≤ 24
  · have e : Hid (ws.all (inR 0 (n - 1)) = isWordB n ws) := by simp [Hid, isWordB, h]
    clear hv HC
    go_enter Tryz.func32, Tryz.ntmps32
    go_wp2_with (go_at_call 63; refine ca.mono ?_; rintro e w' ⟨rfl, hb⟩)
    go_ret
    exact ⟨ret_b e.out, hb1.trans (hb.mono hb1.size)⟩
  · have e : isWordB n ws = false := by simp [isWordB]; omega
    have E := Lib.hid e
    clear e hv HC
    go_enter Tryz.func32, Tryz.ntmps32
    go_wp2
    go_ret
    exact ⟨ret_b E.out.symm, hb1⟩

theorem checkWords1_c (n : Int) (vx v : Value) (ws : List Int) (b : Nat) (w : World) (hn : 0 ≤ n) (hn8 : n ≤ 8) (h0 : w.cell? ⟨b, 0, none⟩ = some (.int .i64 n)) (h1 : w.cell? ⟨b, 1, none⟩ = some vx) (hv : Rd w w.heap.size v (nums ws)) :
    Calls Tryz.prog 31 #[v, .pointer (some ⟨b, 0, none⟩)] w fun e w' => e = .returned (.bool (!isWordB n ws)) ∧ Below w.heap.size w w' := by
  have ci := isWord_c n vx v ws w hn hn8 hv
  clear hv
  go_enter Tryz.func31, Tryz.ntmps31
  go_wp2_with (go_at_call 32; refine ci.mono ?_; rintro e w' ⟨rfl, hb⟩)
  go_ret
  exact ⟨rfl, hb⟩

/-- A slice of slices that is read. -/
structure RdS (w : World) (B : Nat) (v : Value) (xss : List (List Int)) : Prop where
  ex : ∃ vs : List Value, Rd w B v vs ∧ vs.length = xss.length ∧ ∀ (j : Nat) u xs, vs[j]? = some u → xss[j]? = some xs → Rd w B u (nums xs)
theorem RdS.below {w w' : World} {B : Nat} {v : Value} {xss : List (List Int)} (h : RdS w B v xss) (hb : Below B w w') : RdS w' B v xss := by
  obtain ⟨vs, h1, h2, h3⟩ := h
  exact ⟨⟨vs, h1.below hb, h2, fun j u xs hu hx => (h3 j u xs hu hx).below hb⟩⟩
theorem RdS.mono {w : World} {B B' : Nat} {v : Value} {xss : List (List Int)} (h : RdS w B v xss) (hB : B ≤ B') : RdS w B' v xss := by
  obtain ⟨vs, h1, h2, h3⟩ := h
  exact ⟨⟨vs, h1.mono hB, h2, fun j u xs hu hx => (h3 j u xs hu hx).mono hB⟩⟩

/-- The code of an alphabet and words. -/
def checkB (n : Int) (ds : List Int) (xss : List (List Int)) : Int := if isAlpha n ds then (if xss.all (isWordB n) then 0 else 2) else 1

theorem isAlpha_range {n : Int} {ds : List Int} (h : isAlpha n ds = true) : 0 ≤ n ∧ n ≤ 8 := by
  simp only [isAlpha, Bool.and_eq_true] at h
  exact inR_iff.1 h.1

theorem checkWords_c (n : Int) (vx v : Value) (ds : List Int) (xss : List (List Int)) (w : World) (hT : Tab w) (hx : Rd w w.heap.size vx (nums ds)) (hv : RdS w w.heap.size v xss) :
    Calls Tryz.prog 17 #[.agg #[.int .i64 n, vx], v] w fun e w' => e = .returned (.int .i64 (checkB n ds xss)) ∧ Below w.heap.size w w' := by
  have hb1 : Below w.heap.size w (w.alloc (.cells #[.int .i64 n, vx] 26)) := (Below.refl _ w).alloc (Nat.le_refl _) _
  have ca := IsAlphabet_c n vx ds _ (hT.below hb1) ((hx.below hb1).mono hb1.size)
  by_cases ha : isAlpha n ds = true
  · obtain ⟨hn, hn8⟩ := isAlpha_range ha
    obtain ⟨vs, hr, hl, hes⟩ := hv
    have hc : ∀ W, Below (w.heap.size + 1) (w.alloc (.cells #[.int .i64 n, vx] 26)) W → Calls Tryz.prog 30 #[v, .func (.func 31) #[] #[.pointer (some ⟨w.heap.size, 0, none⟩)]] W fun e w' => e = .returned (.bool ((xss.map fun ws => !isWordB n ws).any id)) ∧ Below W.heap.size W w' := fun W hW => by
      have hsz : w.heap.size + 1 ≤ W.heap.size := by simpa using hW.size
      refine scontainsFunc_c 31 _ (enters_of Tryz.func31 (by kernel_rfl) rfl) v vs (xss.map fun ws => !isWordB n ws) W (by simp [hl]) ((hr.below (hb1.trans (hW.mono (by omega)))).mono (by omega)) ?_
      intro X j x b hX hxj hbj
      rw [List.getElem?_map, Option.map_eq_some_iff] at hbj
      obtain ⟨ws, hws, rfl⟩ := hbj
      have hBX : Below w.heap.size w X := (hb1.trans (hW.mono (by omega))).trans (hX.mono (by omega))
      have k0 : X.cell? ⟨w.heap.size, 0, none⟩ = some (.int .i64 n) := (hX.cell (p := ⟨w.heap.size, 0, none⟩) hsz).trans ((hW.cell (p := ⟨w.heap.size, 0, none⟩) (by simp)).trans (by simp [go_sem]))
      have k1 : X.cell? ⟨w.heap.size, 1, none⟩ = some vx := (hX.cell (p := ⟨w.heap.size, 1, none⟩) hsz).trans ((hW.cell (p := ⟨w.heap.size, 1, none⟩) (by simp)).trans (by simp [go_sem]))
      exact checkWords1_c n vx x ws _ X hn hn8 k0 k1 (((hes j x ws hxj hws).below hBX).mono (by have := hX.size; omega))
    rw [ha] at ca
    have e : Hid ((!xss.any fun ws => !isWordB n ws) = xss.all (isWordB n)) := List.all_eq_not_any_not.symm
    have E : Hid (checkB n ds xss = if (xss.any fun ws => !isWordB n ws) = true then 2 else 0) := by
      show checkB n ds xss = _
      unfold checkB
      rw [if_pos ha, ← e.out]
      cases (xss.any fun ws => !isWordB n ws) <;> rfl
    simp only [List.any_map, Function.comp_def, id] at hc
    have HA := Lib.hid ha
    clear e ha hes hr
    go_enter Tryz.func17, Tryz.ntmps17
    cases hany : (xss.any fun ws => !isWordB n ws) with
    | true =>
      rw [hany] at hc
      go_wp2_with (first
        | (go_at_call 29; refine ca.mono ?_; rintro e w' ⟨rfl, hb⟩)
        | (go_at_call 30; refine (hc _ (hb.mono (by simp))).mono ?_; rintro e w2 ⟨rfl, hb2⟩))
      go_ret
      exact ⟨ret_i (by rw [E.out, hany]; rfl), (hb1.trans (hb.mono hb1.size)).trans (hb2.mono (Nat.le_trans hb1.size hb.size))⟩
    | false =>
      rw [hany] at hc
      go_wp2_with (first
        | (go_at_call 29; refine ca.mono ?_; rintro e w' ⟨rfl, hb⟩)
        | (go_at_call 30; refine (hc _ (hb.mono (by simp))).mono ?_; rintro e w2 ⟨rfl, hb2⟩))
      go_ret
      exact ⟨ret_i (by rw [E.out, hany]; rfl), (hb1.trans (hb.mono hb1.size)).trans (hb2.mono (Nat.le_trans hb1.size hb.size))⟩
  · have ha' : isAlpha n ds = false := by simpa using ha
    have e : checkB n ds xss = 1 := by simp [checkB, ha']
    have E := Lib.hid e
    rw [ha'] at ca
    clear e ha ha' hv hx
    go_enter Tryz.func17, Tryz.ntmps17
    go_wp2_with (go_at_call 29; refine ca.mono ?_; rintro e w' ⟨rfl, hb⟩)
    go_ret
    exact ⟨ret_i E.out.symm, hb1.trans (hb.mono hb1.size)⟩
end Go.Proofs.YtopfcpnilblieaaGreatDoor
