/- comparisons: cmp.Compare, cmp.Or, slices.Compare, slices.CompareFunc -/
import Derived.Test.YtopfcpnilblieaaGreatDoorFuncs
namespace Go.Proofs.YtopfcpnilblieaaGreatDoor
open Go.RowKit

def cmpI (x y : Int) : Int := if x < y then -1 else if y < x then 1 else 0
theorem cmpI_lt {x y : Int} (h : x < y) : cmpI x y = -1 := by simp [cmpI, h]
theorem cmpI_gt {x y : Int} (h : y < x) : cmpI x y = 1 := by unfold cmpI; rw [if_neg (by omega), if_pos h]
theorem cmpI_eq {x y : Int} (h : x = y) : cmpI x y = 0 := by unfold cmpI; rw [if_neg (by omega), if_neg (by omega)]
theorem cmpI_zero {x y : Int} : cmpI x y = 0 ↔ x = y := by
  unfold cmpI
  constructor
  · intro h; split at h
    · omega
    · split at h <;> omega
  · intro h; rw [if_neg (by omega), if_neg (by omega)]

theorem Compare64_c (x y : Int) (w : World) : Calls Tryz.prog 41 #[.int .i64 x, .int .i64 y] w fun e w' => e = .returned (.int .i64 (cmpI x y)) ∧ w = w' := by
  rcases Int.lt_trichotomy x y with h | h | h
  · have E := Lib.hid (cmpI_lt h)
    have h' : ¬ y < x := by omega
    go_enter Tryz.func41, Tryz.ntmps41
    go_wp2
    go_ret
    exact ⟨ret_i E.out.symm, rfl⟩
  · subst h
    have E := Lib.hid (cmpI_eq (x := x) rfl)
    go_enter Tryz.func41, Tryz.ntmps41
    go_wp2
    go_ret
    exact ⟨ret_i E.out.symm, rfl⟩
  · have E := Lib.hid (cmpI_gt h)
    have h' : ¬ x < y := by omega
    go_enter Tryz.func41, Tryz.ntmps41
    go_wp2
    go_ret
    exact ⟨ret_i E.out.symm, rfl⟩
theorem CompareInt_c (x y : Int) (w : World) : Calls Tryz.prog 33 #[.int .i64 x, .int .i64 y] w fun e w' => e = .returned (.int .i64 (cmpI x y)) ∧ w = w' := by
  rcases Int.lt_trichotomy x y with h | h | h
  · have E := Lib.hid (cmpI_lt h)
    have h' : ¬ y < x := by omega
    go_enter Tryz.func33, Tryz.ntmps33
    go_wp2
    go_ret
    exact ⟨ret_i E.out.symm, rfl⟩
  · subst h
    have E := Lib.hid (cmpI_eq (x := x) rfl)
    go_enter Tryz.func33, Tryz.ntmps33
    go_wp2
    go_ret
    exact ⟨ret_i E.out.symm, rfl⟩
  · have E := Lib.hid (cmpI_gt h)
    have h' : ¬ x < y := by omega
    go_enter Tryz.func33, Tryz.ntmps33
    go_wp2
    go_ret
    exact ⟨ret_i E.out.symm, rfl⟩

/-- Lexicographically, by a comparison of the elements. -/
def lexBy (f : Int → Int → Int) : List Int → List Int → Int
  | [], [] => 0
  | [], _ :: _ => -1
  | _ :: _, [] => 1
  | x :: xs, y :: ys => if f x y = 0 then lexBy f xs ys else f x y
theorem lexBy_short {f : Int → Int → Int} {xs ys : List Int} {k : Nat} (h : k < xs.length) (h' : ys.length ≤ k) : lexBy f (xs.drop k) (ys.drop k) = 1 := by
  rw [List.drop_eq_getElem_cons h, List.drop_eq_nil_of_le h']; rfl
theorem lexBy_step {f : Int → Int → Int} {xs ys : List Int} {k : Nat} (h : k < xs.length) (h' : k < ys.length) :
    lexBy f (xs.drop k) (ys.drop k) = if f xs[k] ys[k] = 0 then lexBy f (xs.drop (k + 1)) (ys.drop (k + 1)) else f xs[k] ys[k] := by
  rw [List.drop_eq_getElem_cons h, List.drop_eq_getElem_cons h']; rfl
theorem lexBy_end {f : Int → Int → Int} {xs ys : List Int} {k : Nat} (h : xs.length ≤ k) : lexBy f (xs.drop k) (ys.drop k) = if k < ys.length then -1 else 0 := by
  rw [List.drop_eq_nil_of_le h]
  by_cases h' : k < ys.length
  · rw [List.drop_eq_getElem_cons h', if_pos h']; rfl
  · rw [List.drop_eq_nil_of_le (by omega), if_neg h']; rfl

set_option maxHeartbeats 400000 in
theorem SlCompare_c (v1 v2 : Value) (xs ys : List Int) (B : Nat) (w : World) (h1 : Rd w B v1 (nums xs)) (h2 : Rd w B v2 (nums ys)) :
    Calls Tryz.prog 34 #[v1, v2] w fun e w' => e = .returned (.int .i64 (lexBy cmpI xs ys)) ∧ w = w' := by
  obtain ⟨A1, c1, rfl, hl1, hm1, HC1⟩ := h1.cells
  obtain ⟨A2, c2, rfl, hl2, hm2, HC2⟩ := h2.cells
  rw [nums_length] at hl1 hl2 hm1 hm2 ⊢
  rw [nums_length]
  clear h1 h2
  go_enter Tryz.func34, Tryz.ntmps34
  go_wp2
  go_loop [5, 6, 7, 8, 11] (fun _ _ _ _ s11 => ∃ k : Nat, k ≤ xs.length ∧ k ≤ ys.length ∧ s11 = .int .i64 k ∧ Hid (lexBy cmpI xs ys = lexBy cmpI (xs.drop k) (ys.drop k))) (fun _ _ _ _ s11 => xs.length - (intOf s11).toNat)
  case atStart => exact ⟨0, Nat.zero_le _, Nat.zero_le _, rfl, by simp [Hid]⟩
  case round =>
    obtain ⟨k, hk1, hk2, rfl, HL⟩ := hrel
    by_cases hlt : k < xs.length
    · obtain ⟨b1, o1, rfl, _, _, hc1⟩ := HC1.at_ k _ (nums_get hlt)
      by_cases hlt2 : k < ys.length
      · obtain ⟨b2, o2, rfl, _, _, hc2⟩ := HC2.at_ k _ (nums_get hlt2)
        have hs := lexBy_step (f := cmpI) hlt hlt2
        have cc := Compare64_c xs[k] ys[k] w
        generalize xs[k] = x at hc1 hs cc
        generalize ys[k] = y at hc2 hs cc
        have HS := Lib.hid hs
        clear hs
        have hge : ¬ (ys.length : Int) ≤ (k : Int) := by omega
        generalize hr : cmpI x y = r at cc HS
        by_cases hz : r = 0
        · subst hz
          have Hr := Lib.hid hr
          clear hr
          go_wp2_with (go_at_call 41; refine cc.mono ?_; rintro e w' ⟨rfl, rfl⟩)
          go_round
          case rel => exact ⟨k + 1, by omega, by omega, by go_num, by rw [Hid, HL.out, HS.out]; simp⟩
          case measure => simp [intOf]; omega
        · have hb : (r != 0) = true := by simp [hz]
          have Hr := Lib.hid hr
          have Hz := Lib.hid hz
          clear hr hz
          go_wp2_with (go_at_call 41; refine cc.mono ?_; rintro e w' ⟨rfl, rfl⟩)
          go_ret
          exact ⟨ret_i (by rw [HL.out, HS.out, if_neg Hz.out]), rfl⟩
      · have hge : (ys.length : Int) ≤ (k : Int) := by omega
        have HS := Lib.hid (lexBy_short (f := cmpI) hlt (by omega : ys.length ≤ k))
        go_wp2
        go_ret
        exact ⟨ret_i (by rw [HL.out, HS.out]), rfl⟩
    · have hke : k = xs.length := by omega
      subst hke
      have HS := Lib.hid (lexBy_end (f := cmpI) (ys := ys) (Nat.le_refl xs.length))
      by_cases hlt2 : xs.length < ys.length
      · have hb : decide (xs.length < ys.length) = true := by simp [hlt2]
        go_wp2
        go_ret
        exact ⟨ret_i (by rw [HL.out, HS.out, if_pos hlt2]), rfl⟩
      · have hb : decide (xs.length < ys.length) = false := by simp; omega
        go_wp2
        go_ret
        exact ⟨ret_i (by rw [HL.out, HS.out, if_neg hlt2]), rfl⟩
end Go.Proofs.YtopfcpnilblieaaGreatDoor
