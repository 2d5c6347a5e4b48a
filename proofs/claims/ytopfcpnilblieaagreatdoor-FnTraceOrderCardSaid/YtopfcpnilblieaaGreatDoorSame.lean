/- impl.AreSameTrace, walked -/
import Derived.Test.YtopfcpnilblieaaGreatDoorNorm
import Derived.Test.YtopfcpnilblieaaGreatDoorLists
import Derived.Test.YtopfcpnilblieaaGreatDoorSrc
import Derived.StillTailTactics
namespace Go.Proofs.YtopfcpnilblieaaGreatDoor
open Go.RowKit

/-- A slice that is read, none of its cells in a given row. -/
def Avoid (w : World) (row : Option Nat) (v : Value) (xs : List Value) : Prop :=
  ∃ A c, v = .slice A xs.length c ∧ xs.length ≤ c ∧ xs.length ≤ 9223372036854775807 ∧ ∀ j u, xs[j]? = some u → ∃ b o, A = some ⟨b, o, none⟩ ∧ b < w.heap.size ∧ some b ≠ row ∧ w.cell? ⟨b, o + j, none⟩ = some u
theorem Avoid.rd {w : World} {row : Option Nat} {v : Value} {xs : List Value} (h : Avoid w row v xs) : Rd w w.heap.size v xs := by
  obtain ⟨A, c, rfl, h1, h2, h3⟩ := h
  refine Cells.rd (L := 0) ⟨fun j u hj => ?_⟩ h1 h2
  obtain ⟨b, o, e, hb, _, hc⟩ := h3 j u hj
  exact ⟨b, o, e, Nat.zero_le _, hb, hc⟩
theorem Avoid.step {w w' : World} {row : Option Nat} {v : Value} {xs : List Value} (h : Avoid w row v xs) (hb : Below w.heap.size w w') : Avoid w' row v xs := by
  obtain ⟨A, c, e, h1, h2, h3⟩ := h
  refine ⟨A, c, e, h1, h2, fun j u hj => ?_⟩
  obtain ⟨b, o, e, hb', hne, hc⟩ := h3 j u hj
  exact ⟨b, o, e, Nat.lt_of_lt_of_le hb' hb.size, hne, (hb.cell (p := ⟨b, o + j, none⟩) hb').trans hc⟩
theorem Avoid.grown {w w' : World} {row row' : Option Nat} {v : Value} {xs : List Value} (h : Avoid w row v xs) (hg : w.grownBy w' row) (hr : row' = row ∨ ∃ b, row' = some b ∧ w.heap.size ≤ b) : Avoid w' row' v xs := by
  obtain ⟨A, c, e, h1, h2, h3⟩ := h
  refine ⟨A, c, e, h1, h2, fun j u hj => ?_⟩
  obtain ⟨b, o, e, hb', hne, hc⟩ := h3 j u hj
  refine ⟨b, o, e, Nat.lt_of_lt_of_le hb' hg.size, ?_, hg.cell hc hne⟩
  rcases hr with rfl | ⟨b', rfl, hb2⟩
  · exact hne
  · intro e2; injection e2; omega
theorem Own.avoid {w : World} {base T : Nat} {v : Value} {xs : List Value} (h : Own w base T v xs) (row : Option Nat) (hr : ∀ b, row = some b → b < base) : Avoid w row v xs := by
  obtain ⟨A, c, e, h1, h2, hc⟩ := h.cells
  refine ⟨A, c, e, h1, h2, fun j u hj => ?_⟩
  obtain ⟨b, o, e, hL, hB, hc'⟩ := hc.at_ j u hj
  exact ⟨b, o, e, hB, fun e2 => by have := hr b e2.symm; omega, hc'⟩
theorem Rd.avoid {w : World} {v : Value} {xs : List Value} (h : Rd w w.heap.size v xs) (row : Option Nat) (hr : ∀ b, row = some b → w.heap.size ≤ b) : Avoid w row v xs := by
  obtain ⟨A, c, e, h1, h2, hc⟩ := h.cells
  refine ⟨A, c, e, h1, h2, fun j u hj => ?_⟩
  obtain ⟨b, o, e, hL, hB, hc'⟩ := hc.at_ j u hj
  exact ⟨b, o, e, hB, fun e2 => by have := hr b e2.symm; omega, hc'⟩

set_option maxHeartbeats 800000 in
theorem firsts_c (vt v : Value) (ds ws : List Nat) (B : Nat) (w : World) (hd : ∀ m ∈ ds, m < 2 ^ 63) (h63 : ds.length ≤ 63) (hw : ∀ a ∈ ws, a < ds.length) (ht : Rd w B vt (nats ds)) (hv : Rd w B v (nats ws)) :
    Calls Tryz.prog 75 #[vt, v] w fun e w' => e = .returned (.int .i64 ((firstsP ds ws).1 : Int)) ∧ w = w' := by
  obtain ⟨At, ct, rfl, _, _, HT⟩ := ht.cells
  obtain ⟨A, c, rfl, h1, h2, HC⟩ := hv.cells
  simp only [nats_length] at *
  have HB : Hid (∀ k, (firstsP ds (ws.take k)).1 < 2 ^ 63 ∧ (firstsP ds (ws.take k)).2 < 2 ^ 63) := fun k => firstsP_lt hd (p := (0, 0)) (fun a ha => by have := hw a (List.mem_of_mem_take ha); omega) (by decide) (by decide)
  have HD := Lib.hid hd
  have HW := Lib.hid hw
  clear ht hv hd hw
  go_enter Tryz.func75, Tryz.ntmps75
  go_wp2
  go_loop [5, 6, 11] (fun s5 s6 s11 => ∃ k : Nat, k ≤ ws.length ∧ s5 = .int .i64 ((firstsP ds (ws.take k)).1 : Int) ∧ s6 = .int .i64 ((firstsP ds (ws.take k)).2 : Int) ∧ s11 = .int .i64 (k : Int)) (fun _ _ s11 => ws.length - (intOf s11).toNat)
  case atStart => exact ⟨0, Nat.zero_le _, by simp [firstsP], by simp [firstsP], rfl⟩
  case round =>
    obtain ⟨k, hk, rfl, rfl, rfl⟩ := hrel
    obtain ⟨b1, b2⟩ := HB.out k
    by_cases hlt : k < ws.length
    · obtain ⟨b, o, rfl, _, _, hc⟩ := HC.at_ k _ (nats_get hlt)
      have hin := HW.out _ (List.getElem_mem hlt)
      have hst : firstsP ds (ws.take (k + 1)) = fstep ds (firstsP ds (ws.take k)) ws[k] := by rw [← firstsP_snoc, List.take_append_getElem]
      generalize ws[k] = a at hc hin hst
      obtain ⟨bt, ot, rfl, _, _, hct⟩ := HT.at_ a _ (nats_get hin)
      have hd1 := HD.out _ (List.getElem_mem hin)
      have hg : ds.getD a 0 = ds[a] := by simp [List.getD_eq_getElem?_getD, hin]
      unfold fstep at hst
      rw [hg] at hst
      clear hg
      generalize ds[a] = d at hct hd1 hst
      have hin' : (a : Int) < (ds.length : Int) := by omega
      have HST := Lib.hid hst
      clear hst
      generalize firstsP ds (ws.take k) = p at b1 b2 HST ⊢
      obtain ⟨p1, p2⟩ := p
      simp only at b1 b2 HST ⊢
      have ch := has_c p2 a b2
      have co := one_c a (by omega)
      have e2 := or_nat p2 d b2 hd1
      have e1 := or_pow p1 a b1 (by omega)
      cases hb : p2.testBit a with
      | true =>
        rw [hb] at ch HST
        go_wp2_with (go_at_call 61; refine (ch _).mono ?_; rintro e w' ⟨rfl, rfl⟩)
        go_round
        case rel => exact ⟨k + 1, by omega, by rw [HST.out]; simp, by rw [HST.out], by go_num⟩
        case measure => simp [intOf]; omega
      | false =>
        rw [hb] at ch HST
        go_wp2_with (first
          | (go_at_call 61; refine (ch _).mono ?_; rintro e w' ⟨rfl, rfl⟩)
          | (go_at_call 68; refine (co _).mono ?_; rintro e w' ⟨rfl, rfl⟩))
        go_round
        case rel => exact ⟨k + 1, by omega, by rw [HST.out]; simp, by rw [HST.out], by go_num⟩
        case measure => simp [intOf]; omega
    · have hke : k = ws.length := by omega
      subst hke
      go_wp2
      go_ret
      exact ⟨rfl, rfl⟩
set_option maxRecDepth 100000 in
set_option maxHeartbeats 800000 in
theorem withoutFirst_c (v : Value) (ws : List Nat) (a : Nat) (w : World) (ha : a ∈ ws) (hl : ws.length ≤ 1000) (hv : Rd w w.heap.size v (nats ws)) :
    Calls Tryz.prog 76 #[v, .int .i64 (a : Int)] w (OutRow 2 (nats (ws.erase a)) w) := by
  obtain ⟨i, hi, h1, h2, h3⟩ := first_index ha
  have ci := Index_c v (ws.map fun (n : Nat) => (n : Int)) (a : Int) w _ (by rw [← nats_nums]; exact hv)
  have hfi : firstAt ((ws.map fun (n : Nat) => (n : Int)).map fun y => (a : Int) == y) = (i : Int) := by
    refine firstAt_hit (fun j hj => ?_) ?_
    · have hj' := h2 j hj
      rw [List.getElem?_map, List.getElem?_map]
      rw [List.getElem?_eq_getElem (show j < ws.length by omega)] at hj' ⊢
      simp only [Option.map_some, Option.some.injEq]
      have : ws[j] ≠ a := fun e => hj' (by rw [e])
      simp; omega
    · rw [List.getElem?_map, List.getElem?_map, h1]; simp
  rw [hfi] at ci
  obtain ⟨A, c, rfl, hc1, _, HC⟩ := hv.cells
  obtain ⟨b, o, rfl, _, hbB, _⟩ := HC.at_ i _ (nats_get hi)
  rw [nats_length] at *
  have HCt : ∀ W, Below w.heap.size w W → Rd W w.heap.size (.slice (some ⟨b, o, none⟩) i c) (nums ((ws.take i).map fun (n : Nat) => (n : Int))) := fun W hW => by
    have hlt : (nums ((ws.take i).map fun (n : Nat) => (n : Int))).length = i := by rw [nums_length]; simp; omega
    have hc : Cells W 0 w.heap.size (some ⟨b, o, none⟩) (nums ((ws.take i).map fun (n : Nat) => (n : Int))) := ⟨fun j u hj => by
      have hj' : j < i := by have := (List.getElem?_eq_some_iff.1 hj).1; omega
      obtain ⟨b', o', e, h1, h2, h3⟩ := (HC.below hW).at_ j u (by rw [← nats_nums] at hj; rw [nats, List.getElem?_map] at hj ⊢; rw [List.getElem?_take_of_lt hj'] at hj; exact hj)
      exact ⟨b', o', e, h1, h2, h3⟩⟩
    have := hc.rd (c := c) (by omega) (by omega)
    rwa [hlt] at this
  have hE : ([(ws.take i).map fun (n : Nat) => (n : Int), (ws.drop (i + 1)).map fun (n : Nat) => (n : Int)] : List (List Int)).flatten = (ws.erase a).map fun (n : Nat) => (n : Int) := by
    rw [← h3, List.eraseIdx_eq_take_drop_succ]; simp
  have HE := Lib.hid hE
  have hls : lenSum [(ws.take i).map fun (n : Nat) => (n : Int), (ws.drop (i + 1)).map fun (n : Nat) => (n : Int)] ≤ 1000000 := by simp [lenSum]; omega
  have HLS := Lib.hid hls
  have HB0 := Lib.hid (Below.refl w.heap.size w)
  have i1 : (0 : Int) ≤ (i : Int) := by omega
  have k2 : IntKind.i64.wrap ((i : Int) + 1) = (i : Int) + 1 := by rw [IntKind.wrap_i64]; omega
  have k3 : ((i : Int) + 1).toNat = i + 1 := by omega
  have k4 : (0 : Int) ≤ (i : Int) + 1 := by omega
  have hb2 : ∀ (u1 u2 : Value) , Below w.heap.size w (w.drew.alloc (.cells #[u1, u2] 24)) := fun u1 u2 => (Below.refl _ w).drew.alloc (Nat.le_refl _) _
  have HB2 := Lib.hid hb2
  have hcc : ∀ (u2 : Value) , Rd (w.drew.alloc (.cells #[.slice (some ⟨b, o, none⟩) i c, u2] 24)) w.heap.size u2 (nums ((ws.drop (i + 1)).map fun (n : Nat) => (n : Int))) →
      Calls Tryz.prog 84 #[.slice (some ⟨w.heap.size, 0, none⟩) 2 2] (w.drew.alloc (.cells #[.slice (some ⟨b, o, none⟩) i c, u2] 24)) fun e w' => OutRow 2 (nats (ws.erase a)) w e w' := fun u2 h2 => by
    have hz : (w.drew.alloc (.cells #[.slice (some ⟨b, o, none⟩) i c, u2] 24)).heap.size = w.heap.size + 1 := by simp
    refine (Concat_c _ _ (w.drew.alloc (.cells #[.slice (some ⟨b, o, none⟩) i c, u2] 24)) HLS.out (rds_two (b := w.heap.size) (by rw [hz]; omega) (by simp [go_sem]) (by simp [go_sem]) ((HCt _ (HB2.out _ _)).mono (by rw [hz]; omega)) (h2.mono (by rw [hz]; omega)))).mono ?_
    rintro e w' ⟨v, rfl, ho, hb⟩
    rw [hz] at ho hb
    exact ⟨v, rfl, by rw [HE.out, ← nats_nums] at ho; exact Own.base ho (by omega), (HB2.out _ _).trans (hb.mono (by omega))⟩
  have HCC := Lib.hid hcc
  have HCd : ∀ W, Below w.heap.size w W → ∀ cc, ws.length - (i + 1) ≤ cc → Rd W w.heap.size (.slice (some ⟨b, o + (i + 1), none⟩) (ws.length - (i + 1)) cc) (nums ((ws.drop (i + 1)).map fun (n : Nat) => (n : Int))) := fun W hW cc hcc => by
    have hlt : (nums ((ws.drop (i + 1)).map fun (n : Nat) => (n : Int))).length = ws.length - (i + 1) := by rw [nums_length]; simp
    have hc : Cells W 0 w.heap.size (some ⟨b, o + (i + 1), none⟩) (nums ((ws.drop (i + 1)).map fun (n : Nat) => (n : Int))) := ⟨fun j u hj => by
      obtain ⟨b', o', e, h1, h2, h3⟩ := (HC.below hW).at_ (i + 1 + j) u (by rw [← nats_nums] at hj; rw [nats, List.getElem?_map] at hj ⊢; rw [List.getElem?_drop] at hj; exact hj)
      cases e
      exact ⟨b, _, rfl, h1, h2, by rw [Nat.add_assoc]; exact h3⟩⟩
    have := hc.rd (c := cc) (by omega) (by omega)
    rwa [hlt] at this
  by_cases hcap : c = i + 1
  · have hnil : ws.drop (i + 1) = [] := by apply List.eq_nil_of_length_eq_zero; simp; omega
    have hcx := HCC.out (.slice (some ⟨b, o, none⟩) 0 0) (by
      rw [hnil]
      exact ⟨some ⟨b, o, none⟩, 0, by simp [nums], by simp [nums], by simp [nums], fun h => by simp [nums] at h⟩)
    have k1 : (i : Int) ≤ (i : Int) + 1 := by omega
    have hz : ws.length = i + 1 := by omega
    clear hv HC HCt hnil HCd hls hE hfi hcc hb2 h1 h2 h3 HCC
    subst hcap
    rw [hz] at ci ⊢
    clear hz
    go_enter Tryz.func76, Tryz.ntmps76
    go_wp2_with (go_at_call 83; refine ci.mono ?_; rintro e w' ⟨rfl, rfl⟩)
    go_still_tail 7, (by kernel_rfl)
    change wpList _ _ _ _ _ (World.drew _)
    go_wp2_with fail
    refine hcx.mono ?_
    rintro e w' ⟨v, rfl, ho, hb⟩
    go_wp2
    go_ret
    exact ⟨_, rfl, ho, hb⟩
  · have hcx := HCC.out (.slice (some ⟨b, o + (i + 1), none⟩) (ws.length - (i + 1)) (c - (i + 1))) (HCd _ (HB2.out _ _) _ (by omega))
    have k1 : (i : Int) ≤ (c : Int) := by omega
    have k5 : (i : Int) + 1 ≤ (c : Int) := by omega
    have k6 : (i : Int) + 1 ≤ (ws.length : Int) := by omega
    have k7 : (ws.length : Int) ≤ (c : Int) := by omega
    clear hv HC HCt HCd hls hE hfi hcc hb2 h1 h2 h3 HCC
    go_enter Tryz.func76, Tryz.ntmps76
    go_wp2_with (go_at_call 83; refine ci.mono ?_; rintro e w' ⟨rfl, rfl⟩)
    go_still_tail 7, (by kernel_rfl)
    change wpList _ _ _ _ _ (World.drew _)
    go_wp2_with fail
    refine hcx.mono ?_
    rintro e w' ⟨v, rfl, ho, hb⟩
    go_wp2
    go_ret
    exact ⟨_, rfl, ho, hb⟩
end Go.Proofs.YtopfcpnilblieaaGreatDoor
