/- the library's functions that take a predicate -/
import Derived.Test.YtopfcpnilblieaaGreatDoorMem
import Derived.Shelf.Abstract
namespace Go.Proofs.YtopfcpnilblieaaGreatDoor
open Go.RowKit

/-- Where the first 'true' stands, or -1. -/
def firstAt : List Bool → Int
  | [] => -1
  | b :: bs => if b then 0 else if firstAt bs < 0 then -1 else firstAt bs + 1
theorem firstAt_ge : ∀ bs : List Bool, -1 ≤ firstAt bs
  | [] => by simp [firstAt]
  | b :: bs => by
    have := firstAt_ge bs
    unfold firstAt
    split
    · omega
    · split <;> omega
theorem firstAt_hit : ∀ {bs : List Bool} {k : Nat}, (∀ j, j < k → bs[j]? = some false) → bs[k]? = some true → firstAt bs = (k : Int)
  | [], k, _, h => by simp at h
  | b :: bs, 0, _, h => by
    simp at h; subst h; rfl
  | b :: bs, k + 1, hj, h => by
    have h0 := hj 0 (by omega)
    simp at h0; subst h0
    have ih := firstAt_hit (bs := bs) (k := k) (fun j hj' => by have := hj (j + 1) (by omega); simpa using this) (by simpa using h)
    unfold firstAt
    rw [ih]
    simp; omega
theorem firstAt_miss : ∀ {bs : List Bool}, (∀ j, j < bs.length → bs[j]? = some false) → firstAt bs = -1
  | [], _ => rfl
  | b :: bs, hj => by
    have h0 := hj 0 (by simp)
    simp at h0; subst h0
    have ih := firstAt_miss (bs := bs) (fun j hj' => by have := hj (j + 1) (by simp; omega); simpa using this)
    unfold firstAt
    rw [ih]; rfl
theorem firstAt_any : ∀ bs : List Bool, decide (0 ≤ firstAt bs) = bs.any id
  | [] => rfl
  | true :: bs => by simp [firstAt]
  | false :: bs => by
    have ih := firstAt_any bs
    have hg := firstAt_ge bs
    simp only [List.any_cons, id, Bool.false_or]
    rw [← ih]
    have e : firstAt (false :: bs) = if firstAt bs < 0 then -1 else firstAt bs + 1 := rfl
    rw [e]
    generalize firstAt bs = x at hg
    by_cases h : x < 0
    · simp [h]
    · simp [h]; omega

/-- What is asked of a function value: at the j-th value it hands back the j-th Bool, and what lay lies. -/
def Tests (g : Nat) (lb : Array Value) (w : World) (vs : List Value) (bs : List Bool) : Prop :=
  ∀ (W : World) (j : Nat) (x : Value) (b : Bool), Below w.heap.size w W → vs[j]? = some x → bs[j]? = some b →
    Calls Tryz.prog g (#[x] ++ lb) W fun e w' => e = .returned (.bool b) ∧ Below W.heap.size W w'

theorem iindexFunc_c (g : Nat) (lb : Array Value) (eg : ∀ args w, (callFunc g args).run Tryz.prog w = .ok (.enter g args) w) (v : Value) (vs : List Value) (bs : List Bool) (w : World) (hl : bs.length = vs.length) (hv : Rd w w.heap.size v vs) (hp : Tests g lb w vs bs) :
    Calls Tryz.prog 85 #[v, .func (.func g) #[] lb] w fun e w' => e = .returned (.int .i64 (firstAt bs)) ∧ Below w.heap.size w w' := by
  obtain ⟨A, c, rfl, h1, h2, h3⟩ := hv
  have HF : Hid (∀ k, k < bs.length → (∀ j, j < k → bs[j]? = some false) → bs[k]? = some true → firstAt bs = (k : Int)) := fun k _ h h' => firstAt_hit h h'
  have HM : Hid ((∀ j, j < bs.length → bs[j]? = some false) → firstAt bs = -1) := firstAt_miss
  have HP := Lib.hid hp
  have H3 := Lib.hid h3
  have HL := Lib.hid hl
  clear hp h3 hl
  go_enter Tryz.func85, Tryz.ntmps85
  go_wp2
  go_loopw [5, 8] (fun _ s8 wr => ∃ k : Nat, k ≤ vs.length ∧ s8 = .int .i64 k ∧ Below w.heap.size w wr ∧ Hid (∀ j, j < k → bs[j]? = some false)) (fun _ s8 _ => vs.length - (intOf s8).toNat)
  case atStart => exact ⟨0, Nat.zero_le _, rfl, Below.refl _ _, fun j hj => absurd hj (Nat.not_lt_zero _)⟩
  case round =>
    obtain ⟨k, hk, rfl, HB, HN⟩ := hrel
    by_cases hlt : k < vs.length
    · obtain ⟨b, o, rfl, hb, hcs⟩ := H3.out (by omega)
      obtain ⟨x, hx⟩ : ∃ x, vs[k]? = some x := ⟨vs[k], List.getElem?_eq_getElem hlt⟩
      have hcell : wr.cell? ⟨b, o + k, none⟩ = some x := (HB.cell (p := ⟨b, o + k, none⟩) hb).trans (hcs k x hx)
      obtain ⟨q, hq⟩ : ∃ q, bs[k]? = some q := ⟨bs[k]'(by rw [HL.out]; exact hlt), List.getElem?_eq_getElem _⟩
      have hcall := HP.out wr k x q HB hx hq
      have Hx := Lib.hid hx
      have Hq := Lib.hid hq
      clear hx hq hcs
      cases q with
      | true =>
        go_wp2_with (go_at_fn g; refine hcall.mono ?_; rintro e w' ⟨rfl, hb1⟩)
        go_ret
        exact ⟨ret_i (HF.out k (by rw [HL.out]; exact hlt) HN.out Hq.out).symm, HB.trans (hb1.mono HB.size)⟩
      | false =>
        go_wp2_with (go_at_fn g; refine hcall.mono ?_; rintro e w' ⟨rfl, hb1⟩)
        go_roundw
        case rel =>
          refine ⟨k + 1, by omega, by go_num, HB.trans (hb1.mono HB.size), fun j hj => ?_⟩
          by_cases e : j = k
          · rw [e]; exact Hq.out
          · exact HN.out j (by omega)
        case measure => simp [intOf]; omega
    · have hk' : k = vs.length := by omega
      have hge : ¬ (k : Int) < (vs.length : Int) := by omega
      have Hk := Lib.hid hk'
      clear hk'
      go_wp2
      go_ret
      exact ⟨ret_i (HM.out (fun j hj => HN.out j (by rw [Hk.out, ← HL.out]; exact hj))).symm, HB⟩

theorem icontainsFunc_c (g : Nat) (lb : Array Value) (eg : ∀ args w, (callFunc g args).run Tryz.prog w = .ok (.enter g args) w) (v : Value) (vs : List Value) (bs : List Bool) (w : World) (hl : bs.length = vs.length) (hv : Rd w w.heap.size v vs) (hp : Tests g lb w vs bs) :
    Calls Tryz.prog 77 #[v, .func (.func g) #[] lb] w fun e w' => e = .returned (.bool (bs.any id)) ∧ Below w.heap.size w w' := by
  have hc := iindexFunc_c g lb eg v vs bs w hl hv hp
  have hf := Lib.hid (firstAt_any bs)
  clear hv hp
  go_enter Tryz.func77, Tryz.ntmps77
  go_wp2_with (go_at_call 85; refine hc.mono ?_; rintro e w' ⟨rfl, hb⟩)
  go_ret
  exact ⟨ret_b hf.out, hb⟩

theorem sindexFunc_c (g : Nat) (lb : Array Value) (eg : ∀ args w, (callFunc g args).run Tryz.prog w = .ok (.enter g args) w) (v : Value) (vs : List Value) (bs : List Bool) (w : World) (hl : bs.length = vs.length) (hv : Rd w w.heap.size v vs) (hp : Tests g lb w vs bs) :
    Calls Tryz.prog 62 #[v, .func (.func g) #[] lb] w fun e w' => e = .returned (.int .i64 (firstAt bs)) ∧ Below w.heap.size w w' := by
  obtain ⟨A, c, rfl, h1, h2, h3⟩ := hv
  have HF : Hid (∀ k, k < bs.length → (∀ j, j < k → bs[j]? = some false) → bs[k]? = some true → firstAt bs = (k : Int)) := fun k _ h h' => firstAt_hit h h'
  have HM : Hid ((∀ j, j < bs.length → bs[j]? = some false) → firstAt bs = -1) := firstAt_miss
  have HP := Lib.hid hp
  have H3 := Lib.hid h3
  have HL := Lib.hid hl
  clear hp h3 hl
  go_enter Tryz.func62, Tryz.ntmps62
  go_wp2
  go_loopw [5, 8] (fun _ s8 wr => ∃ k : Nat, k ≤ vs.length ∧ s8 = .int .i64 k ∧ Below w.heap.size w wr ∧ Hid (∀ j, j < k → bs[j]? = some false)) (fun _ s8 _ => vs.length - (intOf s8).toNat)
  case atStart => exact ⟨0, Nat.zero_le _, rfl, Below.refl _ _, fun j hj => absurd hj (Nat.not_lt_zero _)⟩
  case round =>
    obtain ⟨k, hk, rfl, HB, HN⟩ := hrel
    by_cases hlt : k < vs.length
    · obtain ⟨b, o, rfl, hb, hcs⟩ := H3.out (by omega)
      obtain ⟨x, hx⟩ : ∃ x, vs[k]? = some x := ⟨vs[k], List.getElem?_eq_getElem hlt⟩
      have hcell : wr.cell? ⟨b, o + k, none⟩ = some x := (HB.cell (p := ⟨b, o + k, none⟩) hb).trans (hcs k x hx)
      obtain ⟨q, hq⟩ : ∃ q, bs[k]? = some q := ⟨bs[k]'(by rw [HL.out]; exact hlt), List.getElem?_eq_getElem _⟩
      have hcall := HP.out wr k x q HB hx hq
      have Hx := Lib.hid hx
      have Hq := Lib.hid hq
      clear hx hq hcs
      cases q with
      | true =>
        go_wp2_with (go_at_fn g; refine hcall.mono ?_; rintro e w' ⟨rfl, hb1⟩)
        go_ret
        exact ⟨ret_i (HF.out k (by rw [HL.out]; exact hlt) HN.out Hq.out).symm, HB.trans (hb1.mono HB.size)⟩
      | false =>
        go_wp2_with (go_at_fn g; refine hcall.mono ?_; rintro e w' ⟨rfl, hb1⟩)
        go_roundw
        case rel =>
          refine ⟨k + 1, by omega, by go_num, HB.trans (hb1.mono HB.size), fun j hj => ?_⟩
          by_cases e : j = k
          · rw [e]; exact Hq.out
          · exact HN.out j (by omega)
        case measure => simp [intOf]; omega
    · have hk' : k = vs.length := by omega
      have hge : ¬ (k : Int) < (vs.length : Int) := by omega
      have Hk := Lib.hid hk'
      clear hk'
      go_wp2
      go_ret
      exact ⟨ret_i (HM.out (fun j hj => HN.out j (by rw [Hk.out, ← HL.out]; exact hj))).symm, HB⟩

theorem scontainsFunc_c (g : Nat) (lb : Array Value) (eg : ∀ args w, (callFunc g args).run Tryz.prog w = .ok (.enter g args) w) (v : Value) (vs : List Value) (bs : List Bool) (w : World) (hl : bs.length = vs.length) (hv : Rd w w.heap.size v vs) (hp : Tests g lb w vs bs) :
    Calls Tryz.prog 30 #[v, .func (.func g) #[] lb] w fun e w' => e = .returned (.bool (bs.any id)) ∧ Below w.heap.size w w' := by
  have hc := sindexFunc_c g lb eg v vs bs w hl hv hp
  have hf := Lib.hid (firstAt_any bs)
  clear hv hp
  go_enter Tryz.func30, Tryz.ntmps30
  go_wp2_with (go_at_call 62; refine hc.mono ?_; rintro e w' ⟨rfl, hb⟩)
  go_ret
  exact ⟨ret_b hf.out, hb⟩

end Go.Proofs.YtopfcpnilblieaaGreatDoor
