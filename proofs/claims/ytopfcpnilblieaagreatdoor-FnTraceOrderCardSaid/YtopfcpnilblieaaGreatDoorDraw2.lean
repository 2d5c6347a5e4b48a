/- the draws' work on lists -/
import Derived.Test.YtopfcpnilblieaaGreatDoorDraw1
import Derived.Test.YtopfcpnilblieaaGreatDoorSpec5
namespace Go.Proofs.YtopfcpnilblieaaGreatDoor
open Go.RowKit

theorem nums_nil {xs : List Int} (h : nums xs = []) : xs = [] := by simpa [nums] using h
theorem own_c (v : Value) (xs : List Int) (w : World) (hl : xs.length ≤ 1000000) (hv : Rd w w.heap.size v (nums xs)) : Calls Tryz.prog 16 #[v] w (OutRow 2 (nums xs) w) := by
  obtain ⟨A, c, rfl, _, _, HC⟩ := hv.cells
  have hA := fun e => nums_nil (hv.nil_of e)
  rw [nums_length] at *
  have ho := World.ownsRow_lit (base := w.heap.size) (e := 2) (size := 1) w #[] 0 (Nat.le_refl _) (by decide) rfl
  have HO := Lib.hid ho
  have HC1 := HC.below (((Below.refl _ w).alloc (Nat.le_refl _) (.cells #[] 2)))
  have hb := (Below.refl w.heap.size w).alloc (Nat.le_refl _) (.cells #[] 2)
  have hs : w.heap.size ≤ (w.alloc (.cells #[] 2)).heap.size := by simp
  clear hv ho HC
  go_enter Tryz.func16, Tryz.ntmps16
  go_wp2_with (at_builtin; refine app_all (w0 := w) (xs := []) HO.out hb (Nat.le_refl _) hs HC1 hA (room2 (by simp; omega)) 24 Tryz.underlying24 rfl _ _ rfl rfl rfl ?_; intro v1 w1 h1 h2 h3 h4)
  go_ret
  exact ⟨_, rfl, by simpa using h1, h2⟩
/-- Where a letter stands that may come first, or -1. -/
def firstS (ds : List Nat) (a : Nat) : List Nat → Int
  | [] => -1
  | b :: ws => if b = a then 0 else if depB ds b a then -1 else if firstS ds a ws < 0 then -1 else firstS ds a ws + 1
theorem firstS_ge (ds : List Nat) (a : Nat) : ∀ ws, -1 ≤ firstS ds a ws
  | [] => by simp [firstS]
  | b :: ws => by
    have := firstS_ge ds a ws
    unfold firstS
    split
    · omega
    · split
      · omega
      · split <;> omega
theorem firstS_lt (ds : List Nat) (a : Nat) : ∀ ws : List Nat, firstS ds a ws < ws.length ∨ ws = []
  | [] => .inr rfl
  | b :: ws => by
    left
    have := firstS_lt ds a ws
    unfold firstS
    simp only [List.length_cons]
    split
    · omega
    · split
      · omega
      · split
        · omega
        · rcases this with h | h
          · omega
          · subst h; simp [firstS] at *
/-- Nothing bars the way up to k. -/
def clearTo (ds : List Nat) (a : Nat) (ws : List Nat) (k : Nat) : Prop := ∀ j, j < k → ws.getD j 0 ≠ a ∧ depB ds (ws.getD j 0) a = false
theorem clearTo_cons {ds : List Nat} {a b k : Nat} {ws : List Nat} (h : clearTo ds a (b :: ws) (k + 1)) : b ≠ a ∧ depB ds b a = false ∧ clearTo ds a ws k := by
  have h0 := h 0 (by omega)
  exact ⟨by simpa using h0.1, by simpa using h0.2, fun j hj => by have := h (j + 1) (by omega); simpa using this⟩
theorem firstS_hit {ds : List Nat} {a : Nat} : ∀ {ws : List Nat} {k : Nat}, k < ws.length → clearTo ds a ws k → ws.getD k 0 = a → firstS ds a ws = (k : Int)
  | [], k, h, _, _ => by simp at h
  | b :: ws, 0, _, _, h => by simp at h; simp [firstS, h]
  | b :: ws, k + 1, h, hc, he => by
    obtain ⟨h1, h2, h3⟩ := clearTo_cons hc
    have ih := firstS_hit (ws := ws) (k := k) (by simpa using h) h3 (by simpa using he)
    unfold firstS
    rw [if_neg h1, h2, ih]
    simp; omega
theorem firstS_bar {ds : List Nat} {a : Nat} : ∀ {ws : List Nat} {k : Nat}, k < ws.length → clearTo ds a ws k → ws.getD k 0 ≠ a → depB ds (ws.getD k 0) a = true → firstS ds a ws = -1
  | [], k, h, _, _, _ => by simp at h
  | b :: ws, 0, _, _, h, hd => by simp at h hd; simp [firstS, h, hd]
  | b :: ws, k + 1, h, hc, he, hd => by
    obtain ⟨h1, h2, h3⟩ := clearTo_cons hc
    have ih := firstS_bar (ws := ws) (k := k) (by simpa using h) h3 (by simpa using he) (by simpa using hd)
    unfold firstS
    rw [if_neg h1, h2, ih]
    simp
theorem firstS_end {ds : List Nat} {a : Nat} : ∀ {ws : List Nat}, clearTo ds a ws ws.length → firstS ds a ws = -1
  | [], _ => rfl
  | b :: ws, hc => by
    obtain ⟨h1, h2, h3⟩ := clearTo_cons hc
    have ih := firstS_end h3
    unfold firstS
    rw [if_neg h1, h2, ih]
    simp

set_option maxRecDepth 100000 in
theorem sFirst_c (n : Int) (v vw : Value) (ds ws : List Nat) (a : Nat) (w : World) (hd : ∀ m ∈ ds, m < 2 ^ 63) (ha : a < 63) (hws : ∀ b ∈ ws, b < ds.length)
    (hv : Rd w w.heap.size v (nats ds)) (hw : Rd w w.heap.size vw (nats ws)) :
    Calls Tryz.prog 27 #[.agg #[.int .i64 n, v], vw, .int .i64 (a : Int)] w fun e w' => e = .returned (.int .i64 (firstS ds a ws)) ∧ Below w.heap.size w w' := by
  have hb1 : Below w.heap.size w (w.alloc (.cells #[.int .i64 n, v] 26)) := (Below.refl _ w).alloc (Nat.le_refl _) _
  have HT := Lib.hid (Two.new w (.int .i64 n) v 26)
  obtain ⟨A, c, rfl, _, _, HC⟩ := hw.cells
  rw [nats_length] at *
  have cd := fun (b : Nat) (hb : b < ds.length) (W : World) (hW : Below w.heap.size w W) => sDep_d n v ds b a w.heap.size W hd (by omega) hb hW.size (hv.below hW)
  have HD := Lib.hid cd
  have hz1 : (w.alloc (.cells #[.int .i64 n, v] 26)).heap.size = w.heap.size + 1 := by simp
  clear hd hv hw cd
  go_enter Tryz.func27, Tryz.ntmps27
  go_wp2
  go_loopw [7] (fun s7 wr => ∃ k : Nat, k ≤ ws.length ∧ s7 = .int .i64 k ∧ Hid (clearTo ds a ws k) ∧ Below (w.heap.size + 1) (w.alloc (.cells #[.int .i64 n, v] 26)) wr) (fun s7 _ => ws.length - (intOf s7).toNat)
  case atStart => exact ⟨0, Nat.zero_le _, rfl, fun j hj => absurd hj (Nat.not_lt_zero _), Below.refl _ _⟩
  case round =>
    obtain ⟨k, hk, rfl, HK, HB⟩ := hrel
    have hbw := hb1.trans (HB.mono (by omega))
    by_cases hlt : k < ws.length
    · obtain ⟨b, o, rfl, _, hbB, hc0⟩ := HC.at_ k _ (nats_get hlt)
      have hc := (hbw.cell (p := ⟨b, o + k, none⟩) hbB).trans hc0
      clear hc0
      have e0 : Hid (ws.getD k 0 = ws[k]) := getD_at hlt
      have hin := hws _ (List.getElem_mem hlt)
      have cdk := HD.out _ hin
      generalize ws[k] = x at hc e0 hin cdk
      by_cases hxa : x = a
      · subst hxa
        have hdec : ((x : Int) == (x : Int)) = true := by simp
        have E : Hid (firstS ds x ws = (k : Int)) := firstS_hit hlt HK.out e0.out
        go_wp2
        go_ret
        exact ⟨ret_i E.out.symm, hbw⟩
      · have hdec : ((x : Int) == (a : Int)) = false := by simp; omega
        have ht := (HT.out.below HB (by simp))
        have t0 := ht.c0
        have t1 := ht.c1
        have hbw2 := hbw.drew
        have cd1 := cdk _ hbw2
        have HBX := Lib.hid HB
        have HX := Lib.hid hxa
        clear hxa ht cdk HB
        generalize hdp : depB ds x a = dp at cd1
        have HDP := Lib.hid hdp
        clear hdp
        cases dp with
        | true =>
          have E : Hid (firstS ds a ws = -1) := firstS_bar hlt HK.out (by rw [e0.out]; exact HX.out) (by rw [e0.out]; exact HDP.out)
          go_wp2
          go_still_tail 6, (by kernel_rfl)
          change wpList _ _ _ _ _ (World.drew _)
          go_wp2_with fail
          refine cd1.mono ?_
          rintro e w1 ⟨rfl, hb⟩
          go_wp2
          go_ret
          exact ⟨ret_i E.out.symm, hbw2.trans (hb.mono hbw2.size)⟩
        | false =>
          go_wp2
          go_still_tail 6, (by kernel_rfl)
          change wpList _ _ _ _ _ (World.drew _)
          go_wp2_with fail
          refine cd1.mono ?_
          rintro e w1 ⟨rfl, hb⟩
          go_wp2
          go_roundw
          case rel =>
            refine ⟨k + 1, by omega, by go_num, fun j hj => ?_, HBX.out.drew.trans (hb.mono (by have := HBX.out.size; rw [hz1] at this; exact this))⟩
            by_cases e : j = k
            · subst e; rw [e0.out]; exact ⟨HX.out, HDP.out⟩
            · exact HK.out j (by omega)
          case measure => simp [intOf]; omega
    · have hke : k = ws.length := by omega
      subst hke
      have E : Hid (firstS ds a ws = -1) := firstS_end HK.out
      go_wp2
      go_ret
      exact ⟨ret_i E.out.symm, hbw⟩
set_option maxRecDepth 100000 in
theorem sWithout_c (v : Value) (ws : List Int) (i : Nat) (w : World) (hi : i < ws.length) (hl : ws.length ≤ 1000000) (hv : Rd w w.heap.size v (nums ws)) :
    Calls Tryz.prog 28 #[v, .int .i64 (i : Int)] w (OutRow 2 (nums (ws.eraseIdx i)) w) := by
  obtain ⟨A, c, rfl, hc1, _, HC⟩ := hv.cells
  obtain ⟨b, o, rfl, _, hbB, _⟩ := HC.at_ i _ (nums_get hi)
  rw [nums_length] at *
  have hlt : (ws.take i).length = i := by simp; omega
  have hld : (ws.drop (i + 1)).length = ws.length - (i + 1) := by simp
  have HCt : ∀ W, Below w.heap.size w W → Cells W 0 w.heap.size (some ⟨b, o, none⟩) (nums (ws.take i)) := fun W hW => ⟨fun j u hj => by
    have hj' : j < i := by have := (List.getElem?_eq_some_iff.1 hj).1; rw [nums_length, hlt] at this; exact this
    obtain ⟨b', o', e, h1, h2, h3⟩ := (HC.below hW).at_ j u (by rw [nums, List.getElem?_map] at hj ⊢; rw [List.getElem?_take_of_lt hj'] at hj; exact hj)
    exact ⟨b', o', e, h1, h2, h3⟩⟩
  have HCd : Hid (∀ W, Below w.heap.size w W → Cells W 0 w.heap.size (some ⟨b, o + (i + 1), none⟩) (nums (ws.drop (i + 1)))) := fun W hW => ⟨fun j u hj => by
    obtain ⟨b', o', e, h1, h2, h3⟩ := (HC.below hW).at_ (i + 1 + j) u (by rw [nums, List.getElem?_map] at hj ⊢; rw [List.getElem?_drop] at hj; exact hj)
    cases e
    exact ⟨b, _, rfl, h1, h2, by rw [Nat.add_assoc]; exact h3⟩⟩
  have CO := fun (W : World) (hW : Below w.heap.size w W) => own_c (.slice (some ⟨b, o, none⟩) i c) (ws.take i) W (by omega)
    (by have := (HCt W hW).rd (c := c) (by rw [nums_length]; omega) (by rw [nums_length]; omega); rw [nums_length, hlt] at this; exact this.mono hW.size)
  have hE : Hid (nums (ws.take i) ++ nums (ws.drop (i + 1)) = nums (ws.eraseIdx i)) := by rw [Hid, ← nums_append, List.eraseIdx_eq_take_drop_succ]
  have hroom : Room2 (nums (ws.take i)).length (ws.drop (i + 1)).length := by rw [nums_length, hlt]; exact room2 (by omega)
  have HB0 := Lib.hid (Below.refl w.heap.size w)
  by_cases hcap : c = i + 1
  · have hnil : ws.drop (i + 1) = [] := by apply List.eq_nil_of_length_eq_zero; omega
    have hC0 : ∀ W, Cells W 0 w.heap.size (some ⟨b, o, none⟩) (nums []) := fun W => ⟨fun j u hj => by simp [nums] at hj⟩
    rw [hnil] at hE hroom
    have hz : ws.length = i + 1 := by omega
    have k1 : (i : Int) ≤ (i : Int) + 1 := by omega
    have k2 : IntKind.i64.wrap ((i : Int) + 1) = (i : Int) + 1 := by rw [IntKind.wrap_i64]; omega
    have k3 : ((i : Int) + 1).toNat = i + 1 := by omega
    have k4 : (0 : Int) ≤ (i : Int) + 1 := by omega
    clear hv HC HCt HCd hnil hlt hld
    subst hcap
    go_enter Tryz.func28, Tryz.ntmps28
    go_wp2
    go_region_law (first
      | (go_simp; go_at_call 16; refine (CO _ (by first | exact HB0.out.drew | exact HB0.out)).mono ?_; rintro e w1 ⟨v1, rfl, HO1, HB1⟩)
      | (refine step_app_all (w0 := w) (ys := []) HO1 (HB0.out.drew.trans HB1) (Nat.le_refl _) HB1.size (hC0 _) (fun e => by cases e) hroom 24 Tryz.underlying24 (by rfl) _ _ (by rfl) (by rfl) (by rfl) ?_; intro v2 w2 HO2 HB2 hg2 hat2))
    all_goals
      go_wp2
      go_ret
      exact ⟨_, rfl, by rw [← hE.out]; exact HO2, HB2⟩
  · have k1 : (i : Int) ≤ (c : Int) := by omega
    have k2 : IntKind.i64.wrap ((i : Int) + 1) = (i : Int) + 1 := by rw [IntKind.wrap_i64]; omega
    have k3 : ((i : Int) + 1).toNat = i + 1 := by omega
    have k4 : (0 : Int) ≤ (i : Int) + 1 := by omega
    have k5 : (i : Int) + 1 ≤ (c : Int) := by omega
    have k6 : (i : Int) + 1 ≤ (ws.length : Int) := by omega
    have k7 : (ws.length : Int) ≤ (c : Int) := by omega
    rw [hld] at hroom
    have hx : Hid (∀ (W : World) (cc : Nat), Value.slice (some ⟨b, o + (i + 1), none⟩) (ws.length - (i + 1)) cc = Value.slice (some ⟨b, o + (i + 1), none⟩) (ws.drop (i + 1)).length cc) := fun _ _ => by rw [hld]
    clear hv HC HCt hlt
    go_enter Tryz.func28, Tryz.ntmps28
    go_wp2
    go_region_law (first
      | (go_simp; go_at_call 16; refine (CO _ (by first | exact HB0.out.drew | exact HB0.out)).mono ?_; rintro e w1 ⟨v1, rfl, HO1, HB1⟩)
      | (refine step_app_all (w0 := w) (ys := ws.drop (i + 1)) HO1 (HB0.out.drew.trans HB1) (Nat.le_refl _) HB1.size (HCd.out _ (HB0.out.drew.trans HB1)) (fun e => by cases e) (by rw [hld]; exact hroom) 24 Tryz.underlying24 (by rfl) _ _ (by rfl) (by rfl) (by rw [hld]; rfl) ?_; intro v2 w2 HO2 HB2 hg2 hat2))
    all_goals
      go_wp2
      go_ret
      exact ⟨_, rfl, by rw [← hE.out]; exact HO2, HB2⟩
end Go.Proofs.YtopfcpnilblieaaGreatDoor
