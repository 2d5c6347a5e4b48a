/- the reference's Foata form -/
import Derived.Test.YtopfcpnilblieaaGreatDoorSpec5
import Derived.Deep.QuietTactic
import Derived.BigQuiet
namespace Go.Proofs.YtopfcpnilblieaaGreatDoor
open Go.RowKit

def putH (S : List Nat) (h a : Nat) : List Nat := (S ++ List.replicate (h - S.length) 0).set (h - 1) ((S ++ List.replicate (h - S.length) 0).getD (h - 1) 0 ||| 2 ^ a)
def foataH (ds ws : List Nat) : Nat → List Nat
  | 0 => []
  | i + 1 => putH (foataH ds ws i) ((hts ds ws ws.length).getD i 0) (ws.getD i 0)

theorem putH_length (S : List Nat) (h a : Nat) : (putH S h a).length = S.length + (h - S.length) := by simp [putH]
theorem getD_le {xs : List Nat} {m : Nat} (h : ∀ x ∈ xs, x ≤ m) (i : Nat) : xs.getD i 0 ≤ m := by
  by_cases hk : i < xs.length
  · rw [getD_at hk]; exact h _ (List.getElem_mem hk)
  · simp [List.getD_eq_getElem?_getD, List.getElem?_eq_none (Nat.le_of_not_lt hk)]
theorem getD_lt' {xs : List Nat} {m : Nat} (h0 : 0 < m) (h : ∀ x ∈ xs, x < m) (i : Nat) : xs.getD i 0 < m := by
  by_cases hk : i < xs.length
  · rw [getD_at hk]; exact h _ (List.getElem_mem hk)
  · simp [List.getD_eq_getElem?_getD, List.getElem?_eq_none (Nat.le_of_not_lt hk)]; exact h0
theorem foataH_length (ds ws : List Nat) : ∀ i, (foataH ds ws i).length ≤ ws.length
  | 0 => by simp [foataH]
  | i + 1 => by
    have h1 := foataH_length ds ws i
    have h2 := getD_le (fun x hx => (hts_le ds ws ws.length x hx).2) i
    show (putH _ _ _).length ≤ _
    rw [putH_length]
    omega
theorem putH_lt {S : List Nat} {h a K : Nat} (hS : ∀ s ∈ S, s < 2 ^ K) (ha : a < K) : ∀ s ∈ putH S h a, s < 2 ^ K := by
  have h2 : ∀ s ∈ S ++ List.replicate (h - S.length) 0, s < 2 ^ K := by
    intro s hs
    rcases List.mem_append.1 hs with hs | hs
    · exact hS s hs
    · rw [List.eq_of_mem_replicate hs]; exact Nat.two_pow_pos _
  intro s hs
  rcases List.mem_or_eq_of_mem_set hs with hs | rfl
  · exact h2 s hs
  · exact Nat.or_lt_two_pow (getD_lt' (Nat.two_pow_pos _) h2 _) (Nat.pow_lt_pow_right (by decide) ha)
theorem foataH_lt {ds ws : List Nat} {K : Nat} (hK : 0 < K) (hw : ∀ a ∈ ws, a < K) : ∀ i, ∀ s ∈ foataH ds ws i, s < 2 ^ K
  | 0, s, hs => by simp [foataH] at hs
  | i + 1, s, hs => putH_lt (foataH_lt hK hw i) (getD_lt' hK hw i) s hs

theorem Cells.apart {w w' : World} {L B : Nat} {A : Option Addr} {xs : List Value} (h : Cells w L B A xs) {row : Option Nat} (hg : w.grownBy w' row) (hne : ∀ g, row = some g → g < L ∨ B ≤ g) : Cells w' L B A xs :=
  ⟨fun j u hj => by
    obtain ⟨b, o, e, hL, hB, hc⟩ := h.at_ j u hj
    refine ⟨b, o, e, hL, hB, hg.cell hc (fun e2 => ?_)⟩
    rcases hne b (by first | exact e2 | exact e2.symm) with h1 | h1 <;> omega⟩
theorem Cells.drew {w : World} {L B : Nat} {A : Option Addr} {xs : List Value} (h : Cells w L B A xs) : Cells w.drew L B A xs := ⟨h.at_⟩

def lenV : Value → Nat
  | .slice _ n _ => n
  | _ => 0

set_option maxRecDepth 100000 in
set_option maxHeartbeats 1000000 in
theorem sFoata_c (n : Int) (v vw : Value) (ds ws : List Nat) (w : World) (hd : ∀ m ∈ ds, m < 2 ^ 63) (h63 : ds.length ≤ 62) (hw : ∀ a ∈ ws, a < ds.length) (hl : ws.length ≤ 1000) (hv : Rd w w.heap.size v (nats ds)) (hrw : Rd w w.heap.size vw (nats ws)) :
    Calls Tryz.prog 50 #[.agg #[.int .i64 n, v], vw] w (OutRow 2 (nats (foataH ds ws ws.length)) w) := by
  have hz1 : (w.alloc (.cells #[.int .i64 n, v] 26)).heap.size = w.heap.size + 1 := by simp
  have hb1 : Below w.heap.size w (w.alloc (.cells #[.int .i64 n, v] 26)) := (Below.refl _ w).alloc (Nat.le_refl _) _
  have hb2 : Below (w.heap.size + 1) (w.alloc (.cells #[.int .i64 n, v] 26)) ((w.alloc (.cells #[.int .i64 n, v] 26)).alloc (.cells #[] 2)) := (Below.refl _ _).alloc (by omega) _
  have hz2 : ((w.alloc (.cells #[.int .i64 n, v] 26)).alloc (.cells #[] 2)).heap.size = w.heap.size + 2 := by simp
  have hbw := hb1.trans (hb2.mono (by omega))
  have ch := sHeights_c n v vw ds ws _ hd h63 hw hl ((hv.below hbw).mono hbw.size) ((hrw.below hbw).mono hbw.size)
  have ho0 : Own ((w.alloc (.cells #[.int .i64 n, v] 26)).alloc (.cells #[] 2)) (w.heap.size + 1) 2 (.slice (some ⟨w.heap.size + 1, 0, none⟩) 0 0) (nats (foataH ds ws 0)) := by
    simpa [Own, nats, foataH] using World.ownsRow_lit (w.alloc (.cells #[.int .i64 n, v] 26)) #[] 0 (base := w.heap.size + 1) (e := 2) (size := 1) (by omega) (by decide) rfl
  obtain ⟨A, c, rfl, h1, h2, HC⟩ := hrw.cells
  rw [nats_length] at *
  have HD := Lib.hid hd
  have HWS := Lib.hid hw
  have HB1 := Lib.hid hb1
  have HB2 := Lib.hid hb2
  have HO0 := Lib.hid ho0
  have HZ1 := Lib.hid hz1
  have HZ2 := Lib.hid hz2
  clear hrw hd hw hv hb1 hb2 hbw ho0 hz1 hz2
  go_enter Tryz.func50, Tryz.ntmps50
  go_wp2_with (go_at_call 74; refine ch.mono ?_; rintro e Wh ⟨vh, rfl, HOh, HBh⟩)
  clear ch
  have HBx : Below (w.heap.size + 1) (w.alloc (.cells #[.int .i64 n, v] 26)) Wh := HB2.out.trans (HBh.mono (by rw [HZ2.out]; omega))
  have HOs := HO0.out.below HBh (Nat.le_refl _)
  have hhl := hts_length ds ws ws.length
  have hhr := hts_le ds ws ws.length
  have HFS : Hid (∀ i, foataH ds ws (i + 1) = putH (foataH ds ws i) ((hts ds ws ws.length).getD i 0) (ws.getD i 0)) := fun _ => rfl
  generalize hts ds ws ws.length = hs at HOh hhl hhr HFS
  obtain ⟨Ah, cph, rfl, g1, g2, HCh⟩ := HOh.cells
  rw [HZ2.out] at HCh
  rw [nats_length, hhl] at g1 g2
  rw [nats_length, hhl]
  have HHL := Lib.hid hhl
  have HHR := Lib.hid hhr
  have hsz2 : w.heap.size + 2 ≤ Wh.heap.size := by have := HBh.size; rw [HZ2.out] at this; exact this
  clear hhl hhr HOh
  go_loopw [5, 7] (fun s5 s7 wr => ∃ i : Nat, i ≤ ws.length ∧ s7 = .int .i64 i ∧ Own wr (w.heap.size + 1) 2 s5 (nats (foataH ds ws i)) ∧ Below (w.heap.size + 1) (w.alloc (.cells #[.int .i64 n, v] 26)) wr ∧ Cells wr (w.heap.size + 2) Wh.heap.size Ah (nats hs) ∧ (∀ g, s5.ownBlock = some g → g < w.heap.size + 2 ∨ Wh.heap.size ≤ g) ∧ Wh.heap.size ≤ wr.heap.size) (fun _ s7 _ => ws.length - (intOf s7).toNat)
  case atStart => exact ⟨0, Nat.zero_le _, rfl, HOs, HBx, HCh, fun g hg => by simp [Value.ownBlock] at hg; omega, Nat.le_refl _⟩
  case round =>
    obtain ⟨i, hi, rfl, HO, HB, HH, HAP, hWs⟩ := hrel
    obtain ⟨wo, rfl⟩ : ∃ wo : World, wo = wr := ⟨_, rfl⟩
    have HBw : Below w.heap.size w wo := HB1.out.trans (HB.mono (by omega))
    by_cases hlt : i < ws.length
    · have hlh : i < hs.length := by have := HHL.out; omega
      have hsu := HFS.out i
      have hSl := foataH_length ds ws i
      have hS63 := foataH_lt (ds := ds) (ws := ws) (K := 63) (by decide) (fun a ha => Nat.lt_of_lt_of_le (HWS.out a ha) (by omega)) i
      have hai := HWS.out _ (List.getElem_mem hlt)
      rw [getD_at hlt, getD_at hlh] at hsu
      generalize foataH ds ws i = S at HO hsu hSl hS63
      obtain ⟨_, _, rfl, _, _, _⟩ := HH.at_ i _ (nats_get hlh)
      rename_i bh oh _ _ _
      obtain ⟨b, o, rfl, _, hbL, _⟩ := HC.at_ i _ (nats_get hlt)
      have hcw : ∀ W, Below (w.heap.size + 1) (w.alloc (.cells #[.int .i64 n, v] 26)) W → W.cell? ⟨b, o + i, none⟩ = some (.int .i64 (ws[i] : Nat)) := fun W hW => by
        obtain ⟨b2, o2, e, _, _, hc⟩ := (HC.below (HB1.out.trans (hW.mono (by omega)))).at_ i _ (nats_get hlt)
        cases e; exact hc
      have hch : ∀ W, Cells W (w.heap.size + 2) Wh.heap.size (some ⟨bh, oh, none⟩) (nats hs) → W.cell? ⟨bh, oh + i, none⟩ = some (.int .i64 (hs[i] : Nat)) := fun W hW => by
        obtain ⟨b2, o2, e, _, _, hc⟩ := hW.at_ i _ (nats_get hlh)
        cases e; exact hc
      have hhi := HHR.out _ (List.getElem_mem hlh)
      generalize ws[i] = a at hcw hai hsu
      generalize hs[i] = h at hch hhi hsu
      have HSU := Lib.hid hsu
      have HS63 := Lib.hid hS63
      have HCW := Lib.hid hcw
      have HCHX := Lib.hid hch
      obtain ⟨p, rfl⟩ : ∃ p, h = p + 1 := ⟨h - 1, by omega⟩
      clear hsu hS63 hcw hch
      go_wp2
      go_loopw [5] (fun s5 wx => ∃ j : Nat, j ≤ p + 1 - S.length ∧ Own wx (w.heap.size + 1) 2 s5 (nats (S ++ List.replicate j 0)) ∧ Below (w.heap.size + 1) (w.alloc (.cells #[.int .i64 n, v] 26)) wx ∧ Cells wx (w.heap.size + 2) Wh.heap.size (some ⟨bh, oh, none⟩) (nats hs) ∧ (∀ g, s5.ownBlock = some g → g < w.heap.size + 2 ∨ Wh.heap.size ≤ g) ∧ Wh.heap.size ≤ wx.heap.size) (fun s5 _ => p + 1 - lenV s5)
      case atStart => exact ⟨0, Nat.zero_le _, by simpa using HO, HB, HH, HAP, hWs⟩
      case round =>
        obtain ⟨j, hj, HOx, HBx, HHx, HAx, hWx⟩ := hrel
        obtain ⟨wx, rfl⟩ : ∃ wx : World, wx = wr := ⟨_, rfl⟩
        have hcx := HCHX.out _ HHx
        have hszx : w.heap.size + 1 ≤ wx.heap.size := by have := HBx.size; rw [HZ1.out] at this; exact this
        have hwx := HCW.out _ HBx
        have hTl : (S ++ List.replicate j 0).length = S.length + j := by simp
        by_cases hlj : S.length + j < p + 1
        · have hrep : S ++ List.replicate (j + 1) 0 = (S ++ List.replicate j 0) ++ [0] := by rw [List.replicate_succ', List.append_assoc]
          have HREP := Lib.hid hrep
          have hroom : Room (nats (S ++ List.replicate j 0)).length := room (by rw [nats_length]; omega)
          have HOy := HOx
          obtain ⟨At, ct, rfl, t1, t2, HCt⟩ := HOx.cells
          rw [nats_length, hTl] at HOy HAx t1 t2 ⊢
          have hcond : ((S.length + j : Nat) : Int) < (p : Int) + 1 := by omega
          have hcond2 : (S.length : Int) + (j : Int) < (p : Int) + 1 := by omega
          have HTL := Lib.hid hTl
          clear hrep hTl HOx HCt
          go_wp2_with (at_builtin; refine app_int HOy HBx hszx hroom 24 Tryz.underlying24 rfl _ _ rfl _ rfl rfl ?_; intro v1 w1 HO1 HB1' HG1 HAT)
          have HO1' : Own w1 (w.heap.size + 1) 2 v1 (nats (S ++ List.replicate (j + 1) 0)) := by rw [HREP.out, nats_append]; exact HO1
          have HH1 := HHx.apart HG1 HAx
          have hsz1 := HG1.size
          have HA1 : ∀ g, v1.ownBlock = some g → g < w.heap.size + 2 ∨ Wh.heap.size ≤ g := fun g hg => by
            rcases HAT with e | ⟨b', e, hb'⟩
            · exact HAx g (by rw [← e]; exact hg)
            · rw [e] at hg; cases hg; right; omega
          have hlv : lenV v1 = S.length + (j + 1) := by
            obtain ⟨At1, ct1, rfl, _⟩ := HO1'.cells
            simp [lenV, nats]
          go_roundw
          case rel => exact ⟨j + 1, by omega, HO1', HB1', HH1, HA1, by omega⟩
          case measure => rw [hlv]; simp only [lenV]; omega
        · have hje : j = p + 1 - S.length := by omega
          have hput : putH S (p + 1) a = (S ++ List.replicate j 0).set p ((S ++ List.replicate j 0).getD p 0 ||| 2 ^ a) := by rw [hje]; rfl
          rw [← HSU.out] at hput
          have hpl : p < (S ++ List.replicate j 0).length := by rw [hTl]; omega
          rw [getD_at hpl] at hput
          have ht63 : (S ++ List.replicate j 0)[p] < 2 ^ 63 := by
            rcases List.mem_append.1 (List.getElem_mem hpl) with hm | hm
            · exact HS63.out _ hm
            · rw [List.eq_of_mem_replicate hm]; decide
          have htl : (S ++ List.replicate j 0).length ≤ 1000 := by omega
          have hcond3 : ¬ (S.length : Int) + (j : Int) < (p : Int) + 1 := by omega
          generalize hTT : S ++ List.replicate j 0 = T at HOx hpl hput ht63 htl hTl
          obtain ⟨g, cap, rfl, hgb, hgl⟩ := HOx.form (by rw [nats_length]; omega)
          have hcT := HOx.cellAt (nats_get hpl)
          have hfT := HOx.frozenAt p
          have hst := HOx.stored p (.int .i64 ((T[p] ||| 2 ^ a : Nat) : Int))
          rw [nats_set, ← hput] at hst
          have HST := Lib.hid hst
          have HAy := HAx g rfl
          have eor := or_pow T[p] a ht63 (by omega)
          generalize T[p] = t at hcT ht63 eor HST
          simp only [nats_length] at HST HOx ⊢
          have hnl : ¬ (T.length : Int) < (p : Int) + 1 := by omega
          have hpl' : (p : Int) < T.length := by omega
          have hsub : IntKind.i64.wrap ((p : Int) + 1 - 1) = (p : Int) := by rw [IntKind.wrap_i64]; omega
          have hsub2 : IntKind.i64.wrap (p : Int) = (p : Int) := by rw [IntKind.wrap_i64]; omega
          have hp0 : (0 : Int) ≤ (p : Int) := by omega
          have HTL := Lib.hid hTl
          have HTT := Lib.hid hTT
          clear hst hput hTl hTT hcond3 hje hlj
          go_wp2
          go_still_tail 21, (by kernel_rfl)
          still_call (eqw (sOne_c a (by omega) _))
          repeat still_step
          refine wpStill_nil ?_
          change wpList _ _ _ _ _ (World.drew _)
          go_wp2
          obtain ⟨hs1, hs2⟩ := HST.out
          go_roundw
          case rel => exact ⟨i + 1, by omega, by go_num, hs1.drew, (HBx.trans (below_grown hs2 hgb hszx)).drew, (HHx.apart hs2 (fun g' e => by cases e; exact HAy)).drew, fun g' e => by cases e; exact HAy, by have := hs2.size; show Wh.heap.size ≤ _; exact Nat.le_trans hWx this⟩
          case measure => simp [intOf]; omega
    · have hke : i = ws.length := by omega
      subst hke
      go_wp2
      go_ret
      exact ⟨_, rfl, HO.base (by omega), HBw⟩
end Go.Proofs.YtopfcpnilblieaaGreatDoor
