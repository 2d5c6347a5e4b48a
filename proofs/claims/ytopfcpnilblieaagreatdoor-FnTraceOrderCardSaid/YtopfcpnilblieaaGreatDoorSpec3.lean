/- the reference's alphabets (all inputs), words, dependence and the order of words -/
import Derived.Test.YtopfcpnilblieaaGreatDoorSpec2
namespace Go.Proofs.YtopfcpnilblieaaGreatDoor
open Go.RowKit

set_option maxHeartbeats 800000 in
theorem sIs_c (n : Int) (v : Value) (xs : List Int) (w : World) (hv : Rd w w.heap.size v (nums xs)) :
    Calls Tryz.prog 20 #[.agg #[.int .i64 n, v]] w fun e w' => e = .returned (.bool (isAlpha n xs)) ∧ Below w.heap.size w w' := by
  have hb1 : Below w.heap.size w (w.alloc (.cells #[.int .i64 n, v] 26)) := (Below.refl _ w).alloc (Nat.le_refl _) _
  have hv1 := (hv.below hb1).mono hb1.size
  have cr := fun W => sIn_c n 0 8 W
  by_cases h1 : inR 0 8 n = true
  · have hn8 := inR_iff.1 h1
    by_cases h2 : (xs.length : Int) = n
    · have cm := sMasks_c n.toNat v xs _ (by omega) hv1
      have hnn : ((n.toNat : Nat) : Int) = n := by omega
      rw [hnn] at cm
      have hl : n.toNat = xs.length := by omega
      rw [hl] at cm
      by_cases h3 : xs.all (inR 0 ((p2 xs.length : Int) - 1)) = true
      · have h3' := List.all_eq_true.1 h3
        have hr : isRel xs = true := by simp only [isRel, Bool.and_eq_true, decide_eq_true_eq]; exact ⟨by omega, h3⟩
        have hx0 : ∀ x ∈ xs, 0 ≤ x := fun x hx => (inR_iff.1 (h3' x hx)).1
        have e : isAlpha n xs = alphaB (toN xs) := by simp [isAlpha, h1, h2, hr, toN]
        have hds : ∀ m ∈ toN xs, m < 2 ^ (toN xs).length := by
          intro m hm
          obtain ⟨x, hx, rfl⟩ := List.mem_map.1 hm
          have h4 := (inR_iff.1 (h3' x hx)).2
          have h5 := p2_pos xs.length
          have h6 := hx0 x hx
          rw [toN_length]
          show x.toNat < p2 xs.length
          omega
        rw [nums_toN hx0] at hv
        rw [e]
        have := sIs_yes (toN xs) v w (by rw [toN_length]; omega) hds hv
        rw [toN_length, h2] at this
        exact this
      · have h3' : xs.all (inR 0 ((p2 xs.length : Int) - 1)) = false := by simpa using h3
        have e : isAlpha n xs = false := by
          have : isRel xs = false := by simp only [isRel, h3', Bool.and_false]
          simp [isAlpha, this]
        rw [h3'] at cm
        have h2' : ((xs.length : Int) != n) = false := by simp [h2]
        have E := Lib.hid e
        rw [h1] at cr
        obtain ⟨A, c, rfl, g1, g2, HC⟩ := hv.cells
        simp only [nums_length] at *
        clear e h2 h3 h3' hv hv1 HC h1 hnn hl
        go_enter Tryz.func20, Tryz.ntmps20
        go_wp2_with (first
          | (go_at_call 44; refine (cr _).mono ?_; rintro e w' ⟨rfl, rfl⟩)
          | (go_at_call 45; refine cm.mono ?_; rintro e wm ⟨rfl, hb⟩))
        go_ret
        exact ⟨ret_b E.out.symm, hb1.trans (hb.mono hb1.size)⟩
    · have e : isAlpha n xs = false := by simp [isAlpha, h2]
      have E := Lib.hid e
      have h2' : ((xs.length : Int) != n) = true := by simp [h2]
      rw [h1] at cr
      obtain ⟨A, c, rfl, g1, g2, HC⟩ := hv.cells
      simp only [nums_length] at *
      clear e h2 hv hv1 HC h1
      go_enter Tryz.func20, Tryz.ntmps20
      go_wp2_with (go_at_call 44; refine (cr _).mono ?_; rintro e w' ⟨rfl, rfl⟩)
      go_ret
      exact ⟨ret_b E.out.symm, hb1⟩
  · have e : isAlpha n xs = false := by simp [isAlpha, h1]
    have E := Lib.hid e
    have h1' : inR 0 8 n = false := by simpa using h1
    rw [h1'] at cr
    clear e h1 hv hv1 h1'
    go_enter Tryz.func20, Tryz.ntmps20
    go_wp2_with (go_at_call 44; refine (cr _).mono ?_; rintro e w' ⟨rfl, rfl⟩)
    go_ret
    exact ⟨ret_b E.out.symm, hb1⟩

theorem sWord_c (n : Int) (v : Value) (ws : List Int) (w : World) (hn : 0 ≤ n) (hn8 : n ≤ 8) (B : Nat) (hv : Rd w B v (nums ws)) :
    Calls Tryz.prog 47 #[.int .i64 n, v] w fun e w' => e = .returned (.bool (isWordB n ws)) ∧ w = w' := by
  obtain ⟨A, c, rfl, h1, h2, HC⟩ := hv.cells
  simp only [nums_length] at *
  by_cases h : ws.length ≤ 24
  · have HT : Hid ((∀ j, (hj : j < ws.length) → inR 0 (n - 1) ws[j] = true) → isWordB n ws = true) := fun hh => by simp only [isWordB, all_true hh, h, decide_true, Bool.and_self]
    have HF : Hid (∀ j, (hj : j < ws.length) → inR 0 (n - 1) ws[j] = false → isWordB n ws = false) := fun j hj hh => by simp only [isWordB, all_false hj hh, Bool.and_false]
    clear hv
    go_enter Tryz.func47, Tryz.ntmps47
    go_wp2
    go_loop [5] (fun s5 => ∃ k : Nat, k ≤ ws.length ∧ s5 = .int .i64 k ∧ Hid (∀ j, (hj : j < ws.length) → j < k → inR 0 (n - 1) ws[j] = true)) (fun s5 => ws.length - (intOf s5).toNat)
    case atStart => exact ⟨0, Nat.zero_le _, rfl, fun j _ hj => absurd hj (Nat.not_lt_zero _)⟩
    case round =>
      obtain ⟨k, hk, rfl, HN⟩ := hrel
      by_cases hlt : k < ws.length
      · obtain ⟨b, o, rfl, _, _, hc⟩ := HC.at_ k _ (nums_get hlt)
        have ci := fun W => sIn_c ws[k] 0 (n - 1) W
        have HF1 := Lib.hid (HF.out k hlt)
        generalize hb : inR 0 (n - 1) ws[k] = bb at ci
        have HB := Lib.hid hb
        clear hb
        generalize ws[k] = x at hc ci
        cases bb with
        | true =>
          go_wp2_with (go_at_call 44; refine (ci _).mono ?_; rintro e w' ⟨rfl, rfl⟩)
          go_round
          case rel =>
            refine ⟨k + 1, by omega, by go_num, fun j hj hjk => ?_⟩
            by_cases e : j = k
            · subst e; exact HB.out
            · exact HN.out j hj (by omega)
          case measure => simp [intOf]; omega
        | false =>
          go_wp2_with (go_at_call 44; refine (ci _).mono ?_; rintro e w' ⟨rfl, rfl⟩)
          go_ret
          exact ⟨ret_b (HF1.out HB.out).symm, rfl⟩
      · have hke : k = ws.length := by omega
        subst hke
        go_wp2
        go_ret
        exact ⟨ret_b (HT.out fun j hj => HN.out j hj hj).symm, rfl⟩
  · have e : isWordB n ws = false := by simp [isWordB]; omega
    have E := Lib.hid e
    clear e hv HC
    go_enter Tryz.func47, Tryz.ntmps47
    go_wp2
    go_ret
    exact ⟨ret_b E.out.symm, rfl⟩

theorem sIsW_c (n : Int) (vx v : Value) (ds ws : List Int) (w : World) (hx : Rd w w.heap.size vx (nums ds)) (hv : Rd w w.heap.size v (nums ws)) :
    Calls Tryz.prog 21 #[.agg #[.int .i64 n, vx], v] w fun e w' => e = .returned (.bool (isAlpha n ds && isWordB n ws)) ∧ Below w.heap.size w w' := by
  have hb1 : Below w.heap.size w (w.alloc (.cells #[.int .i64 n, vx] 26)) := (Below.refl _ w).alloc (Nat.le_refl _) _
  have ca := sIs_c n vx ds _ ((hx.below hb1).mono hb1.size)
  have q0 : (w.alloc (.cells #[.int .i64 n, vx] 26)).cell? ⟨w.heap.size, 0, none⟩ = some (.int .i64 n) := by simp [go_sem]
  by_cases h : isAlpha n ds = true
  · obtain ⟨hn, hn8⟩ := isAlpha_range h
    have cw := fun W (hW : Below w.heap.size w W) => sWord_c n v ws W hn hn8 _ (hv.below hW)
    rw [h] at ca ⊢
    clear h hx
    go_enter Tryz.func21, Tryz.ntmps21
    go_wp2_with (first
      | (go_at_call 20; refine ca.mono ?_; rintro e w' ⟨rfl, hb⟩; have k0 := (hb.cell (p := ⟨w.heap.size, 0, none⟩) (by simp)).trans q0)
      | (go_at_call 47; refine (cw _ (hb1.trans (hb.mono hb1.size))).mono ?_; rintro e w2 ⟨rfl, rfl⟩))
    go_ret
    exact ⟨by simp, hb1.trans (hb.mono hb1.size)⟩
  · have h' : isAlpha n ds = false := by simpa using h
    rw [h'] at ca ⊢
    clear h h' hx
    go_enter Tryz.func21, Tryz.ntmps21
    go_wp2_with (go_at_call 20; refine ca.mono ?_; rintro e w' ⟨rfl, hb⟩)
    go_ret
    exact ⟨by simp, hb1.trans (hb.mono hb1.size)⟩

theorem sDep_c (n : Int) (v : Value) (ds : List Nat) (a b : Nat) (B : Nat) (w : World) (hd : ∀ m ∈ ds, m < 2 ^ 63) (h63 : b < 63) (ha : a < ds.length) (hB : B ≤ w.heap.size) (hv : Rd w B v (nats ds)) :
    Calls Tryz.prog 56 #[.agg #[.int .i64 n, v], .int .i64 a, .int .i64 b] w fun e w' => e = .returned (.bool ((ds.getD a 0).testBit b)) ∧ Below w.heap.size w w' := by
  have hb1 : Below w.heap.size w (w.alloc (.cells #[.int .i64 n, v] 26)) := (Below.refl _ w).alloc (Nat.le_refl _) _
  have hd63 := hd _ (List.getElem_mem ha)
  rw [getD_at ha]
  obtain ⟨A, c, rfl, h1, h2, HC⟩ := hv.cells
  obtain ⟨bb, o, rfl, _, hbB, hc⟩ := HC.at_ a _ (nats_get ha)
  simp only [nats_length] at *
  have hbl : bb < w.heap.size := Nat.lt_of_lt_of_le hbB hB
  generalize ds[a] = d at hc hd63 ⊢
  have c := fun W => sBit_c d b hd63 (by omega) W
  clear hv HC hd
  go_enter Tryz.func56, Tryz.ntmps56
  go_wp2_with (go_at_call 46; refine (c _).mono ?_; rintro e w' ⟨rfl, rfl⟩)
  go_ret
  exact ⟨rfl, hb1⟩

/-- Lexicographically before. -/
def lessI : List Int → List Int → Bool
  | [], [] => false
  | [], _ :: _ => true
  | _ :: _, [] => false
  | x :: xs, y :: ys => if x = y then lessI xs ys else decide (x < y)
theorem lessI_end {xs ys : List Int} {k : Nat} (h : xs.length ≤ k ∨ ys.length ≤ k) (hx : k ≤ xs.length) (hy : k ≤ ys.length) : lessI (xs.drop k) (ys.drop k) = decide (xs.length < ys.length) := by
  by_cases h1 : k < xs.length
  · rw [List.drop_eq_getElem_cons h1, List.drop_eq_nil_of_le (show ys.length ≤ k by omega)]
    show false = _
    simp; omega
  · rw [List.drop_eq_nil_of_le (show xs.length ≤ k by omega)]
    by_cases h2 : k < ys.length
    · rw [List.drop_eq_getElem_cons h2]
      show true = _
      simp; omega
    · rw [List.drop_eq_nil_of_le (show ys.length ≤ k by omega)]
      show false = _
      simp; omega
theorem lessI_step {xs ys : List Int} {k : Nat} (h : k < xs.length) (h' : k < ys.length) : lessI (xs.drop k) (ys.drop k) = if xs[k] = ys[k] then lessI (xs.drop (k + 1)) (ys.drop (k + 1)) else decide (xs[k] < ys[k]) := by
  rw [List.drop_eq_getElem_cons h, List.drop_eq_getElem_cons h']; rfl

set_option maxHeartbeats 400000 in
theorem sLess_c (v1 v2 : Value) (xs ys : List Int) (B : Nat) (w : World) (hB : B ≤ w.heap.size) (h1 : Rd w B v1 (nums xs)) (h2 : Rd w B v2 (nums ys)) :
    Calls Tryz.prog 73 #[v1, v2] w fun e w' => e = .returned (.bool (lessI xs ys)) ∧ ∃ q, w' = w.drewN q := by
  obtain ⟨A1, c1, rfl, hl1, hm1, HC1⟩ := h1.cells
  obtain ⟨A2, c2, rfl, hl2, hm2, HC2⟩ := h2.cells
  simp only [nums_length] at *
  clear h1 h2
  go_enter Tryz.func73, Tryz.ntmps73
  go_wp2
  go_loopw [5] (fun s5 wr => ∃ k q : Nat, k ≤ xs.length ∧ k ≤ ys.length ∧ s5 = .int .i64 k ∧ wr = w.drewN q ∧ Hid (lessI xs ys = lessI (xs.drop k) (ys.drop k))) (fun s5 _ => xs.length - (intOf s5).toNat)
  case atStart => exact ⟨0, 0, Nat.zero_le _, Nat.zero_le _, rfl, rfl, by simp [Hid]⟩
  case round =>
    obtain ⟨k, q, hk1, hk2, rfl, rfl, HL⟩ := hrel
    by_cases hlt : k < xs.length
    · obtain ⟨b1, o1, rfl, _, _, hc1⟩ := HC1.at_ k _ (nums_get hlt)
      by_cases hlt2 : k < ys.length
      · obtain ⟨b2, o2, rfl, _, _, hc2⟩ := HC2.at_ k _ (nums_get hlt2)
        have hs := lessI_step hlt hlt2
        generalize xs[k] = x at hc1 hs
        generalize ys[k] = y at hc2 hs
        have HS := Lib.hid hs
        clear hs
        by_cases hxy : x = y
        · subst hxy
          have hne : ((x : Int) != x) = false := by simp
          go_wp2
          go_quiet (fail)
          go_wp2
          go_roundw
          case rel => exact ⟨k + 1, _, by omega, by omega, by go_num, rfl, by rw [Hid, HL.out, HS.out]; simp⟩
          case measure => simp [intOf]; omega
        · have hne : ((x : Int) != y) = true := by simp [hxy]
          have HXY := Lib.hid hxy
          clear hxy
          go_wp2
          go_quiet (fail)
          go_wp2
          go_quiet (fail)
          go_wp2
          go_ret
          exact ⟨ret_b (by rw [HL.out, HS.out, if_neg HXY.out]), _, by simp [World.drewN_drewN]; rfl⟩
      · have E := Lib.hid (lessI_end (xs := xs) (ys := ys) (k := k) (by omega) hk1 hk2)
        have hke : k = ys.length := by omega
        have hb : decide (xs.length < ys.length) = false := by simp; omega
        subst hke
        go_wp2
        go_ret
        exact ⟨ret_b (by rw [HL.out, E.out, hb]), _, rfl⟩
    · have E := Lib.hid (lessI_end (xs := xs) (ys := ys) (k := k) (by omega) hk1 hk2)
      have hke : k = xs.length := by omega
      subst hke
      by_cases hlt2 : xs.length < ys.length
      · have hb : decide (xs.length < ys.length) = true := by simp [hlt2]
        go_wp2
        go_ret
        exact ⟨ret_b (by rw [HL.out, E.out, hb]), _, rfl⟩
      · have hb : decide (xs.length < ys.length) = false := by simp; omega
        go_wp2
        go_ret
        exact ⟨ret_b (by rw [HL.out, E.out, hb]), _, rfl⟩
end Go.Proofs.YtopfcpnilblieaaGreatDoor
