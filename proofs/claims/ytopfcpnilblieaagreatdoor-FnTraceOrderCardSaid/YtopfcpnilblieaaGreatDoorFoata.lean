/- the Foata form -/
import Derived.Test.YtopfcpnilblieaaGreatDoorConv
import Derived.Deep.QuietTactic
import Derived.BigQuiet
import Derived.Shelf.Abstract
namespace Go.Proofs.YtopfcpnilblieaaGreatDoor
open Go.RowKit

/-- The level to which a letter with the dependence d falls, the first i steps looked at. -/
def levAt (S : List Nat) (d : Nat) : Nat → Nat
  | 0 => 0
  | i + 1 => if S.getD i 0 &&& d = 0 then levAt S d i else i + 1
def lev (S : List Nat) (d : Nat) : Nat := levAt S d S.length
def putAt (S : List Nat) (i a : Nat) : List Nat := if i = S.length then S ++ [2 ^ a] else S.set i (S.getD i 0 ||| 2 ^ a)
def dropS (ds S : List Nat) (a : Nat) : List Nat := putAt S (lev S (ds.getD a 0)) a
/-- The Foata form: the letters fall one after the other. -/
def foataL (ds ws : List Nat) : List Nat := ws.foldl (dropS ds) []

theorem levAt_le (S : List Nat) (d : Nat) : ∀ i, levAt S d i ≤ i
  | 0 => Nat.le_refl _
  | i + 1 => by
    unfold levAt
    split
    · have := levAt_le S d i; omega
    · exact Nat.le_refl _
theorem putAt_length {S : List Nat} {i : Nat} (a : Nat) : (putAt S i a).length ≤ S.length + 1 := by
  unfold putAt
  split
  · simp
  · simp
theorem foata_snoc (ds ws : List Nat) (k : Nat) (h : k < ws.length) : foataL ds (ws.take (k + 1)) = dropS ds (foataL ds (ws.take k)) ws[k] := by
  unfold foataL
  rw [List.take_succ_eq_append_getElem h, List.foldl_append]; rfl
theorem dropS_length (ds S : List Nat) (a : Nat) : (dropS ds S a).length ≤ S.length + 1 := putAt_length a
theorem foata_length (ds : List Nat) : ∀ (ws S : List Nat), (ws.foldl (dropS ds) S).length ≤ S.length + ws.length
  | [], S => by simp
  | a :: ws, S => by
    have h1 := foata_length ds ws (dropS ds S a)
    have h2 := dropS_length ds S a
    simp only [List.foldl_cons, List.length_cons]
    omega
theorem putAt_lt {S : List Nat} {i a K : Nat} (hS : ∀ s ∈ S, s < 2 ^ K) (ha : a < K) : ∀ s ∈ putAt S i a, s < 2 ^ K := by
  have hp : 2 ^ a < 2 ^ K := Nat.pow_lt_pow_right (by decide) ha
  intro s hs
  unfold putAt at hs
  split at hs
  · rcases List.mem_append.1 hs with h | h
    · exact hS s h
    · rw [List.mem_singleton.1 h]; exact hp
  · rcases List.mem_or_eq_of_mem_set hs with h | h
    · exact hS s h
    · rw [h]
      refine Nat.or_lt_two_pow ?_ hp
      by_cases hi : i < S.length
      · simp only [List.getD_eq_getElem?_getD, List.getElem?_eq_getElem hi, Option.getD_some]; exact hS _ (List.getElem_mem hi)
      · simp only [List.getD_eq_getElem?_getD, List.getElem?_eq_none (Nat.le_of_not_lt hi), Option.getD_none]; exact Nat.two_pow_pos _
theorem foata_lt {ds : List Nat} {K : Nat} : ∀ (ws S : List Nat), (∀ a ∈ ws, a < K) → (∀ s ∈ S, s < 2 ^ K) → ∀ s ∈ ws.foldl (dropS ds) S, s < 2 ^ K
  | [], S, _, hS => hS
  | a :: ws, S, hw, hS => foata_lt ws _ (fun b hb => hw b (by simp [hb])) (putAt_lt hS (hw a (by simp)))

theorem Own.form {w : World} {base T : Nat} {v : Value} {xs : List Value} (h : Own w base T v xs) (h0 : 0 < xs.length) : ∃ g cap, v = .slice (some ⟨g, 0, none⟩) xs.length cap ∧ base ≤ g ∧ g < w.heap.size := by
  rcases h.2 with ⟨rfl, hz⟩ | ⟨g, cap, cur, rfl, hb, hh, _⟩
  · omega
  · exact ⟨g, cap, rfl, hb, (Array.getElem?_eq_some_iff.1 hh).1⟩
theorem Own.drewN {w : World} {base T : Nat} {v : Value} {xs : List Value} (h : Own w base T v xs) (q : Nat) : Own (w.drewN q) base T v xs := h
theorem cell_drewN {w : World} {a : Addr} {v : Option Value} {q : Nat} (h : w.cell? a = v) : (w.drewN q).cell? a = v := h
theorem frozen_drewN {w : World} {a : Addr} {v : Bool} {q : Nat} (h : w.frozen? a = v) : (w.drewN q).frozen? a = v := h
theorem grown_drewN {w w' : World} {row : Option Nat} (h : w.grownBy w' row) (q : Nat) : w.grownBy (w'.drewN q) row := ⟨h.os, h.tape, h.output, h.size, h.block⟩

set_option maxRecDepth 100000 in
set_option maxHeartbeats 800000 in
theorem foata_c (ds ws : List Nat) (vt vw : Value) (w : World) (hd : ∀ m ∈ ds, m < 2 ^ 63) (h63 : ds.length ≤ 62) (hw : ∀ a ∈ ws, a < ds.length) (hl : ws.length ≤ 1000) (ht : Rd w w.heap.size vt (nats ds)) (hv : Rd w w.heap.size vw (nats ws)) :
    Calls Tryz.prog 38 #[vt, vw] w (OutRow 2 (nats (foataL ds ws)) w) := by
  obtain ⟨At, ct, rfl, ht1, ht2, HT⟩ := ht.cells
  obtain ⟨Aw, cw, rfl, hw1, hw2, HW⟩ := hv.cells
  rw [nats_length] at ht1 ht2 hw1 hw2 ⊢
  rw [nats_length]
  have HD := Lib.hid hd
  have HWS := Lib.hid hw
  clear ht hv hd hw
  go_enter Tryz.func38, Tryz.ntmps38
  go_wp2
  go_loopw [5, 7, 8, 12] (fun s5 _ _ s12 wr => ∃ k : Nat, k ≤ ws.length ∧ s12 = .int .i64 k ∧ Own wr w.heap.size 2 s5 (nats (foataL ds (ws.take k))) ∧ Below w.heap.size w wr) (fun _ _ _ s12 _ => ws.length - (intOf s12).toNat)
  case atStart => exact ⟨0, Nat.zero_le _, rfl, World.ownsRow_lit w #[] 0 (Nat.le_refl _) (by decide) rfl, (Below.refl _ w).alloc (Nat.le_refl _) _⟩
  case round =>
    obtain ⟨k, hk, rfl, HO, HB⟩ := hrel
    obtain ⟨wo, rfl⟩ : ∃ wo : World, wo = wr := ⟨_, rfl⟩
    by_cases hlt : k < ws.length
    · obtain ⟨bw, ow, rfl, _, _, hcw⟩ := (HW.below HB).at_ k _ (nats_get hlt)
      have ha := HWS.out _ (List.getElem_mem hlt)
      have hsn := foata_snoc ds ws k hlt
      have hS63 : ∀ s ∈ foataL ds (ws.take k), s < 2 ^ 63 := foata_lt _ [] (fun b hb => Nat.lt_of_lt_of_le (HWS.out b (List.mem_of_mem_take hb)) (by omega)) (by simp)
      have hSl : (foataL ds (ws.take k)).length ≤ 1000 := by have := foata_length ds (ws.take k) []; simp [foataL] at this ⊢; omega
      generalize ws[k] = a at hcw ha hsn
      generalize foataL ds (ws.take k) = S at HO hsn hS63 hSl
      obtain ⟨bt, ot, rfl, _, _, hct⟩ := (HT.below HB).at_ a _ (nats_get ha)
      have hd63 := HD.out _ (List.getElem_mem ha)
      have hdd : ds.getD a 0 = ds[a] := by simp [List.getD_eq_getElem?_getD, ha]
      generalize ds[a] = d at hct hd63 hdd
      have HSN := Lib.hid hsn
      have HS := Lib.hid hS63
      have HDD := Lib.hid hdd
      clear hsn hS63 hdd
      have HO0 := HO
      obtain ⟨A, c, rfl, h1, h2, HC⟩ := HO.cells
      rw [nats_length] at h1 h2 HO0 ⊢
      go_wp2
      go_loopw [8] (fun s8 wx => ∃ i q : Nat, i ≤ S.length ∧ s8 = .int .i64 i ∧ wx = wo.drewN q ∧ Hid (lev S d = levAt S d i)) (fun s8 _ => (intOf s8).toNat)
      case atStart => exact ⟨S.length, 0, Nat.le_refl _, rfl, rfl, rfl⟩
      case round =>
        obtain ⟨i, q, hi, rfl, rfl, HL⟩ := hrel
        by_cases hc : 0 < i ∧ S.getD (i - 1) 0 &&& d = 0
        · obtain ⟨h0, hz⟩ := hc
          obtain ⟨j, rfl⟩ : ∃ j, i = j + 1 := ⟨i - 1, by omega⟩
          have hj : j < S.length := by omega
          obtain ⟨b, o, rfl, _, _, hcs⟩ := HC.at_ j _ (nats_get hj)
          have hs63 := HS.out _ (List.getElem_mem hj)
          have hsj : S.getD (j + 1 - 1) 0 = S[j] := by simp [List.getD_eq_getElem?_getD, hj]
          rw [hsj] at hz
          have hlv : lev S d = levAt S d j := by
            rw [HL.out]
            show (if S.getD j 0 &&& d = 0 then levAt S d j else j + 1) = _
            rw [show S.getD j 0 = S[j] from hsj, if_pos hz]
          generalize S[j] = s at hcs hs63 hz
          have HLV := Lib.hid hlv
          clear hsj hlv
          have ea := and_nat s d hs63 hd63
          rw [hz] at ea
          have hg : (0 : Int) < (j : Int) + 1 := by omega
          go_wp2
          go_quiet (fail)
          go_wp2
          go_roundw
          case rel => exact ⟨j, _, by omega, by go_num, rfl, HLV.out⟩
          case measure => simp [intOf]
        · have hlv : lev S d = i ∧ (i = 0 ∨ ∃ j, i = j + 1 ∧ S.getD j 0 &&& d ≠ 0) := by
            rw [HL.out]
            cases i with
            | zero => exact ⟨rfl, .inl rfl⟩
            | succ j =>
              have hne : S.getD j 0 &&& d ≠ 0 := fun e => hc ⟨by omega, e⟩
              refine ⟨?_, .inr ⟨j, rfl, hne⟩⟩
              show (if S.getD j 0 &&& d = 0 then levAt S d j else j + 1) = _
              rw [if_neg hne]
          clear hc HL
          obtain ⟨hlv, hex⟩ := hlv
          have HLV := Lib.hid hlv
          clear hlv
          by_cases hil : i = S.length
          · subst hil
            have hput : dropS ds S a = S ++ [2 ^ a] := by
              unfold dropS
              rw [HDD.out, HLV.out]
              unfold putAt
              rw [if_pos rfl]
            rw [← HSN.out] at hput
            have HPUT := Lib.hid hput
            clear hput
            have hroom : Room (nats S).length := room (by rw [nats_length]; omega)
            have eor : Go.bits .or .i64 0 (p2 a : Int) = ((2 ^ a : Nat) : Int) := by
              have := or_pow 0 a (by decide) (by omega)
              rwa [Nat.zero_or] at this
            rcases hex with h0 | ⟨j, hj, hnz⟩
            case' inl =>
              have hg : decide (0 < S.length) = false := by simp [h0]
              clear h0
              go_wp2
              go_quiet (fail)
            case' inr =>
              have hjl : j < S.length := by omega
              obtain ⟨b, o, rfl, _, _, hcs⟩ := HC.at_ j _ (nats_get hjl)
              have hs63' := HS.out _ (List.getElem_mem hjl)
              rw [show S.getD j 0 = S[j] by simp [List.getD_eq_getElem?_getD, hjl]] at hnz
              generalize S[j] = s' at hcs hs63' hnz
              have ea := and_nat s' d hs63' hd63
              have hz : (((s' &&& d : Nat) : Int) == 0) = false := by simpa using hnz
              have hg : decide (0 < S.length) = true := by simp; omega
              have hi1 : IntKind.i64.wrap ((S.length : Int) - 1) = (j : Int) := by rw [IntKind.wrap_i64]; omega
              have hj0 : (0 : Int) ≤ (j : Int) := by omega
              clear hnz hj
              go_wp2
              go_quiet (fail)
            all_goals
              clear hg
              have hox := HO0.drewN (q + nq)
              have hbx := below_drewN HB (q + nq)
              go_wp2_with (at_builtin; refine app_int hox hbx hbx.size hroom 24 Tryz.underlying24 rfl _ _ rfl _ rfl rfl ?_; intro v1 w1 HO1 HB1 _ _; obtain ⟨g1, cap1, rfl, hgb1, hgl1⟩ := HO1.form (by simp))
              rw [show (nats S ++ [Value.int .i64 0]).length = S.length + 1 by simp [nats]] at HO1
              rw [nats_length]
              have hcx := HO1.cellAt (j := S.length) (u := .int .i64 0) (by simp [nats])
              have hfx := HO1.frozenAt S.length
              have hlt1 : (S.length : Int) < (S.length : Int) + 1 := by omega
              go_still_tail 8, (by kernel_rfl)
              still_call (eqw (one_c a (by omega) _))
              repeat still_step
              refine wpStill_nil ?_
              change wpList _ _ _ _ _ (World.drew _)
              go_wp2
              obtain ⟨hs1, hs2⟩ := HO1.stored S.length (.int .i64 ((2 ^ a : Nat) : Int))
              rw [show (nats S ++ [Value.int .i64 0]).set S.length (.int .i64 ((2 ^ a : Nat) : Int)) = nats (S ++ [2 ^ a]) by simp [nats], ← HPUT.out] at hs1
              go_roundw
              case rel => exact ⟨k + 1, by omega, by go_num, hs1.drew, (HB1.trans (below_grown hs2 hgb1 HB1.size)).drew⟩
              case measure => simp [intOf]; omega
          · have hil' : i < S.length := by omega
            obtain ⟨g, cap, hgf, hgb, hgl⟩ := HO0.form (by rw [nats_length]; omega)
            rw [nats_length] at hgf
            simp only [Value.slice.injEq] at hgf
            obtain ⟨rfl, _, rfl⟩ := hgf
            have hci := HO0.cellAt (nats_get hil')
            have hfi := HO0.frozenAt i
            have hs63 := HS.out _ (List.getElem_mem hil')
            have hput : dropS ds S a = S.set i (S[i] ||| 2 ^ a) := by
              unfold dropS
              rw [HDD.out, HLV.out]
              unfold putAt
              rw [if_neg hil]
              simp [List.getD_eq_getElem?_getD, hil']
            have hset := nats_set S i (S[i] ||| 2 ^ a)
            rw [← hput, ← HSN.out] at hset
            generalize S[i] = s at hci hs63 hset
            have HSET := Lib.hid hset
            clear hset hput
            have hne : ¬ ((i : Int) == (S.length : Int)) = true := by simp; omega
            have eor := or_pow s a hs63 (by omega)
            have hil2 : (i : Int) < S.length := by omega
            rcases hex with h0 | ⟨j, hj, hnz⟩
            case' inl =>
              have hg : decide (0 < i) = false := by simp [h0]
              clear h0
              go_wp2
              go_quiet (fail)
            case' inr =>
              have hjl : j < S.length := by omega
              obtain ⟨b, o, hbo, _, _, hcs⟩ := HC.at_ j _ (nats_get hjl)
              obtain ⟨rfl, rfl⟩ : g = b ∧ 0 = o := by simpa using hbo
              rw [Nat.zero_add] at hcs
              have hs63' := HS.out _ (List.getElem_mem hjl)
              rw [show S.getD j 0 = S[j] by simp [List.getD_eq_getElem?_getD, hjl]] at hnz
              generalize S[j] = s' at hcs hs63' hnz
              have ea := and_nat s' d hs63' hd63
              have hz : (((s' &&& d : Nat) : Int) == 0) = false := by simpa using hnz
              have hg : decide (0 < i) = true := by simp; omega
              have hi1 : IntKind.i64.wrap ((i : Int) - 1) = (j : Int) := by rw [IntKind.wrap_i64]; omega
              have hj0 : (0 : Int) ≤ (j : Int) := by omega
              clear hnz hj hbo
              go_wp2
              go_quiet (fail)
            all_goals
              clear hg
              go_wp2
              have hcx := cell_drewN (q := q + nq) hci
              have hfx := frozen_drewN (q := q + nq) hfi
              have hox := HO0.drewN (q + nq)
              have hbx := below_drewN HB (q + nq)
              generalize wo.drewN (q + nq) = wx at hcx hfx hox hbx ⊢
              go_still_tail 8, (by kernel_rfl)
              still_call (eqw (one_c a (by omega) _))
              repeat still_step
              refine wpStill_nil ?_
              change wpList _ _ _ _ _ (World.drew _)
              go_wp2
              obtain ⟨hs1, hs2⟩ := hox.stored i (.int .i64 ((s ||| 2 ^ a : Nat) : Int))
              rw [HSET.out] at hs1
              go_roundw
              case rel => exact ⟨k + 1, by omega, by go_num, hs1.drew, (hbx.trans (below_grown hs2 hgb hbx.size)).drew⟩
              case measure => simp [intOf]; omega
    · have hke : k = ws.length := by omega
      subst hke
      obtain ⟨A, c, rfl, h1, h2, HC⟩ := HO.cells
      rw [List.take_length] at *
      go_wp2
      go_ret
      exact ⟨_, rfl, HO, HB⟩
end Go.Proofs.YtopfcpnilblieaaGreatDoor
