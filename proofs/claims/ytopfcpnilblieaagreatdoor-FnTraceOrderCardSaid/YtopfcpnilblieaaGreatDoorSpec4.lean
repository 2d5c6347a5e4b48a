/- the reference's order of words, its lists and letters -/
import Derived.Test.YtopfcpnilblieaaGreatDoorSpec3
namespace Go.Proofs.YtopfcpnilblieaaGreatDoor
open Go.RowKit

def ordI (xs ys : List Int) : Int := if lessI xs ys = true then -1 else if lessI ys xs = true then 1 else 0
def beforeI (xs ys : List Int) : Bool := if xs.length = ys.length then lessI xs ys else decide (xs.length < ys.length)

theorem rd_drewN {w : World} {B : Nat} {v : Value} {xs : List Value} (h : Rd w B v xs) (q : Nat) : Rd (w.drewN q) B v xs := h

theorem sOrder_c (v1 v2 : Value) (xs ys : List Int) (B : Nat) (w : World) (hB : B ≤ w.heap.size) (h1 : Rd w B v1 (nums xs)) (h2 : Rd w B v2 (nums ys)) :
    Calls Tryz.prog 48 #[v1, v2] w fun e w' => e = .returned (.int .i64 (ordI xs ys)) ∧ ∃ q, w' = w.drewN q := by
  have c1 := fun q => sLess_c v1 v2 xs ys B (w.drewN q) hB (rd_drewN h1 q) (rd_drewN h2 q)
  have c2 := fun q => sLess_c v2 v1 ys xs B (w.drewN q) hB (rd_drewN h2 q) (rd_drewN h1 q)
  have c0 := sLess_c v1 v2 xs ys B w hB h1 h2
  have E : Hid (ordI xs ys = if lessI xs ys = true then -1 else if lessI ys xs = true then 1 else 0) := rfl
  cases ha : lessI xs ys with
  | true =>
    rw [ha] at c0 E
    clear ha h1 h2
    go_enter Tryz.func48, Tryz.ntmps48
    go_wp2_with (go_at_call 73; refine c0.mono ?_; rintro e w' ⟨rfl, q, rfl⟩)
    go_ret
    exact ⟨ret_i (by rw [E.out]; simp), _, rfl⟩
  | false =>
    rw [ha] at c0 E
    cases hb : lessI ys xs with
    | true =>
      rw [hb] at c2 E
      clear ha hb h1 h2 c1
      go_enter Tryz.func48, Tryz.ntmps48
      go_wp2_with (go_at_call 73; first | (refine c0.mono ?_; clear c0; rintro e w' ⟨rfl, q, rfl⟩) | (refine (c2 _).mono ?_; rintro e w' ⟨rfl, q2, rfl⟩))
      go_ret
      exact ⟨ret_i (by rw [E.out]; simp), _, rfl⟩
    | false =>
      rw [hb] at c2 E
      clear ha hb h1 h2 c1
      go_enter Tryz.func48, Tryz.ntmps48
      go_wp2_with (go_at_call 73; first | (refine c0.mono ?_; clear c0; rintro e w' ⟨rfl, q, rfl⟩) | (refine (c2 _).mono ?_; rintro e w' ⟨rfl, q2, rfl⟩))
      go_ret
      exact ⟨ret_i (by rw [E.out]; simp), _, rfl⟩

theorem sBefore_c (v1 v2 : Value) (xs ys : List Int) (B : Nat) (w : World) (hB : B ≤ w.heap.size) (h1 : Rd w B v1 (nums xs)) (h2 : Rd w B v2 (nums ys)) :
    Calls Tryz.prog 52 #[v1, v2] w fun e w' => e = .returned (.bool (beforeI xs ys)) ∧ ∃ q, w' = w.drewN q := by
  have c0 := sLess_c v1 v2 xs ys B w hB h1 h2
  obtain ⟨A1, c1, rfl, hl1, hm1, HC1⟩ := h1.cells
  obtain ⟨A2, c2, rfl, hl2, hm2, HC2⟩ := h2.cells
  simp only [nums_length] at *
  clear HC1 HC2 h1 h2
  by_cases hlen : xs.length = ys.length
  · have hb : ((xs.length : Int) != (ys.length : Int)) = false := by simp [hlen]
    have E : Hid (beforeI xs ys = lessI xs ys) := if_pos hlen
    clear hlen
    go_enter Tryz.func52, Tryz.ntmps52
    go_wp2_with (go_at_call 73; refine c0.mono ?_; rintro e w' ⟨rfl, q, rfl⟩)
    go_ret
    exact ⟨ret_b E.out.symm, _, rfl⟩
  · have hb : ((xs.length : Int) != (ys.length : Int)) = true := by simp; omega
    have E : Hid (beforeI xs ys = decide (xs.length < ys.length)) := if_neg hlen
    clear hlen
    go_enter Tryz.func52, Tryz.ntmps52
    go_wp2
    go_ret
    exact ⟨ret_b (by simp [E.out]), 0, rfl⟩

/-- The members of a set, by halving. -/
def bitsF : Nat → Nat → Nat → List Nat
  | 0, _, _ => []
  | f + 1, r, k => if r = 0 then [] else (if r % 2 = 1 then [k] else []) ++ bitsF f (r / 2) (k + 1)
theorem bitsF_zero (f k : Nat) : bitsF f 0 k = [] := by cases f <;> rfl
theorem bitsF_odd {f r k : Nat} (h : r % 2 = 1) : bitsF (f + 1) r k = [k] ++ bitsF f (r / 2) (k + 1) := by
  show (if r = 0 then [] else (if r % 2 = 1 then [k] else []) ++ bitsF f (r / 2) (k + 1)) = _
  rw [if_neg (by omega), if_pos h]
theorem bitsF_even {f r k : Nat} (h : r % 2 = 0) (h0 : r ≠ 0) : bitsF (f + 1) r k = bitsF f (r / 2) (k + 1) := by
  show (if r = 0 then [] else (if r % 2 = 1 then [k] else []) ++ bitsF f (r / 2) (k + 1)) = _
  rw [if_neg h0, if_neg (by omega)]; rfl
set_option maxRecDepth 100000 in
theorem bitsF_mem (m : Nat) (hm : m < 256) : bitsF 8 m 0 = mem m := by
  revert m
  decide +kernel

theorem sList_c (m : Nat) (hm : m < 256) (w : World) : Calls Tryz.prog 51 #[.int .i64 m] w (OutRow 2 (nats (mem m)) w) := by
  go_enter Tryz.func51, Tryz.ntmps51
  go_wp2
  go_loopw [0, 3, 4] (fun s0 s3 s4 wr => ∃ (f r k : Nat) (ds : List Nat), r < 2 ^ f ∧ f + k = 8 ∧ Hid (mem m = ds ++ bitsF f r k) ∧ s0 = .int .i64 r ∧ s4 = .int .i64 k ∧ Own wr w.heap.size 2 s3 (nats ds) ∧ Below w.heap.size w wr) (fun s0 _ _ _ => (intOf s0).toNat)
  case atStart => exact ⟨8, m, 0, [], hm, rfl, (bitsF_mem m hm).symm, rfl, rfl, World.ownsRow_lit w #[] 0 (Nat.le_refl _) (by decide) rfl, (Below.refl _ w).alloc (Nat.le_refl _) _⟩
  case round =>
    obtain ⟨f, r, k, ds, hr, hfk, He, rfl, rfl, HO, HB⟩ := hrel
    by_cases h0 : r = 0
    · subst h0
      go_wp2
      go_ret
      have e : mem m = ds := by rw [He.out, bitsF_zero, List.append_nil]
      rw [e]
      exact ⟨_, rfl, HO, HB⟩
    · obtain ⟨f, rfl⟩ : ∃ g, f = g + 1 := by
        cases f with
        | zero => exact absurd hr (by simp; omega)
        | succ g => exact ⟨g, rfl⟩
      have hr' : r / 2 < 2 ^ f := by rw [Nat.pow_succ] at hr; omega
      have hp : (0 : Int) < (r : Int) := by omega
      have hr256 : r < 256 := Nat.lt_of_lt_of_le hr (show 2 ^ (f + 1) ≤ 2 ^ 8 from Nat.pow_le_pow_right (by decide) (by omega))
      have hl : Room (nats ds).length := by
        have := mem_length_le m
        rw [He.out, List.length_append] at this
        rw [nats_length]; exact room (by omega)
      have HR := Lib.hid hr'
      have HFK := Lib.hid hfk
      clear hr hr' hfk
      by_cases h2 : r % 2 = 1
      · have e2 : ((r : Int).tmod 2 == 1) = true := by rw [Int.tmod_eq_emod_of_nonneg (by omega)]; simp; omega
        have e3 : (r : Int) % 2 = 1 := by omega
        have E := Lib.hid (bitsF_odd (f := f) (k := k) h2)
        clear h2
        have hk : k ≤ 8 := by have := HFK.out; omega
        go_wp2_with (at_builtin; refine app_int HO HB HB.size hl 24 Tryz.underlying24 rfl _ _ rfl _ rfl rfl ?_; intro v1 w1 HO1 HB1 _ _)
        go_roundw
        case rel => exact ⟨f, r / 2, k + 1, ds ++ [k], HR.out, by have := HFK.out; omega, by rw [Hid, He.out, E.out, List.append_assoc], by go_num, by go_num, by rw [nats_append]; exact HO1, HB1⟩
        case measure => simp [intOf]; omega
      · have e2 : ((r : Int).tmod 2 == 1) = false := by rw [Int.tmod_eq_emod_of_nonneg (by omega)]; simp; omega
        have e3 : ¬ (r : Int) % 2 = 1 := by omega
        have E := Lib.hid (bitsF_even (f := f) (k := k) (by omega : r % 2 = 0) h0)
        clear h2
        have hk : k ≤ 8 := by have := HFK.out; omega
        go_wp2
        go_roundw
        case rel => exact ⟨f, r / 2, k + 1, ds, HR.out, by have := HFK.out; omega, by rw [Hid, He.out, E.out], by go_num, by go_num, HO, HB⟩
        case measure => simp [intOf]; omega

/-- The letters of a word, the smaller ones first. -/
def letBefore (ws : List Nat) : Nat → List Nat
  | 0 => []
  | a + 1 => letBefore ws a ++ ws.filter (· == a)
def letTo (ws : List Nat) (a i : Nat) : List Nat := letBefore ws a ++ (ws.take i).filter (· == a)
theorem letTo_zero (ws : List Nat) (a : Nat) : letTo ws a 0 = letBefore ws a := by simp [letTo]
theorem letTo_all (ws : List Nat) (a : Nat) : letTo ws a ws.length = letBefore ws (a + 1) := by simp [letTo, letBefore]
theorem letTo_yes {ws : List Nat} {a i : Nat} (hi : i < ws.length) (h : ws[i] = a) : letTo ws a (i + 1) = letTo ws a i ++ [a] := by
  unfold letTo
  rw [List.take_succ_eq_append_getElem hi, List.filter_append, List.append_assoc]
  simp [h]
theorem letTo_no {ws : List Nat} {a i : Nat} (hi : i < ws.length) (h : ws[i] ≠ a) : letTo ws a (i + 1) = letTo ws a i := by
  unfold letTo
  rw [List.take_succ_eq_append_getElem hi, List.filter_append]
  simp [h]
theorem letBefore_length (ws : List Nat) : ∀ a, (letBefore ws a).length ≤ a * ws.length
  | 0 => by simp [letBefore]
  | a + 1 => by
    have h1 := letBefore_length ws a
    have h2 := List.length_filter_le (· == a) ws
    simp only [letBefore, List.length_append, Nat.succ_mul]
    omega
theorem letTo_length (ws : List Nat) (a i : Nat) (ha : a ≤ 8) (hl : ws.length ≤ 1000) : (letTo ws a i).length ≤ 9000 := by
  have h1 := letBefore_length ws a
  have h2 := List.length_filter_le (· == a) (ws.take i)
  have h3 : (ws.take i).length ≤ ws.length := by rw [List.length_take]; omega
  have h4 : a * ws.length ≤ 8 * ws.length := Nat.mul_le_mul_right _ ha
  simp only [letTo, List.length_append]
  omega

theorem sLetters_c (v : Value) (ws : List Nat) (w : World) (hl : ws.length ≤ 1000) (hv : Rd w w.heap.size v (nats ws)) :
    Calls Tryz.prog 49 #[v] w (OutRow 2 (nats (letBefore ws 8)) w) := by
  obtain ⟨A, c, rfl, h1, h2, HC⟩ := hv.cells
  rw [nats_length] at *
  clear hv
  go_enter Tryz.func49, Tryz.ntmps49
  go_wp2
  go_loopw [3, 4, 5] (fun s3 s4 _ wr => ∃ a : Nat, a ≤ 8 ∧ s4 = .int .i64 a ∧ Own wr w.heap.size 2 s3 (nats (letTo ws a 0)) ∧ Below w.heap.size w wr) (fun _ s4 _ _ => 8 - (intOf s4).toNat)
  case atStart => exact ⟨0, Nat.zero_le _, rfl, World.ownsRow_lit w #[] 0 (Nat.le_refl _) (by decide) rfl, (Below.refl _ w).alloc (Nat.le_refl _) _⟩
  case round =>
    obtain ⟨a, ha, rfl, HO, HB⟩ := hrel
    by_cases hlt : a < 8
    · have hdec : decide ((a : Int) < 8) = true := by simp; omega
      go_wp2
      go_loopw [3, 5] (fun s3 s5 wx => ∃ i : Nat, i ≤ ws.length ∧ s5 = .int .i64 i ∧ Own wx w.heap.size 2 s3 (nats (letTo ws a i)) ∧ Below w.heap.size w wx) (fun _ s5 _ => ws.length - (intOf s5).toNat)
      case atStart => exact ⟨0, Nat.zero_le _, rfl, HO, HB⟩
      case round =>
        obtain ⟨i, hi, rfl, HO1, HB1⟩ := hrel
        by_cases hlt2 : i < ws.length
        · obtain ⟨b, o, rfl, _, _, hc⟩ := (HC.below HB1).at_ i _ (nats_get hlt2)
          have hroom : Room (nats (letTo ws a i)).length := room (by rw [nats_length]; have := letTo_length ws a i ha hl; omega)
          by_cases he : ws[i] = a
          · have E := Lib.hid (letTo_yes hlt2 he)
            rw [he] at hc
            clear he
            go_wp2_with (at_builtin; refine app_int HO1 HB1 HB1.size hroom 24 Tryz.underlying24 rfl _ _ rfl _ rfl rfl ?_; intro v1 w1 HO2 HB2 _ _)
            go_roundw
            case rel => exact ⟨i + 1, by omega, by go_num, by rw [E.out, nats_append]; exact HO2, HB2⟩
            case measure => simp [intOf]; omega
          · have E := Lib.hid (letTo_no hlt2 he)
            have hne : (((ws[i] : Nat) : Int) == (a : Int)) = false := by simp; omega
            generalize ws[i] = x at hc hne he
            have HE := Lib.hid he
            clear he
            go_wp2
            go_roundw
            case rel => exact ⟨i + 1, by omega, by go_num, by rw [E.out]; exact HO1, HB1⟩
            case measure => simp [intOf]; omega
        · have hke : i = ws.length := by omega
          subst hke
          rw [letTo_all, ← letTo_zero] at HO1
          go_wp2
          go_roundw
          case rel => exact ⟨a + 1, by omega, by go_num, HO1, HB1⟩
          case measure => simp [intOf]; omega
    · have hae : a = 8 := by omega
      subst hae
      rw [letTo_zero] at HO
      go_wp2
      go_ret
      exact ⟨_, rfl, HO, HB⟩
end Go.Proofs.YtopfcpnilblieaaGreatDoor
