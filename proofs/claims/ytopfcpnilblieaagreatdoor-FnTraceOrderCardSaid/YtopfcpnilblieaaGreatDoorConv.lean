import Derived.Test.YtopfcpnilblieaaGreatDoorSets
import Derived.StillTailTactics
namespace Go.Proofs.YtopfcpnilblieaaGreatDoor
open Go.RowKit

/-- The set of the numbers below n with a property. -/
def mask (p : Nat → Bool) : Nat → Nat
  | 0 => 0
  | n + 1 => mask p n ||| (if p n then 2 ^ n else 0)
theorem mask_bit (p : Nat → Bool) : ∀ n i, (mask p n).testBit i = (decide (i < n) && p i)
  | 0, i => by simp [mask]
  | n + 1, i => by
    unfold mask
    rw [Nat.testBit_or, mask_bit p n i]
    by_cases h : i = n
    · subst h
      cases hp : p i <;> simp
    · have : (if p n = true then 2 ^ n else 0).testBit i = false := by
        split
        · rw [Nat.testBit_two_pow]; simp; omega
        · simp
      rw [this, Bool.or_false]
      by_cases h2 : i < n
      · have : i < n + 1 := by omega
        simp [h2, this]
      · have : ¬ i < n + 1 := by omega
        simp [h2, this]
theorem mask_lt (p : Nat → Bool) : ∀ n, mask p n < 2 ^ n
  | 0 => by simp [mask]
  | n + 1 => by
    unfold mask
    have h := mask_lt p n
    refine Nat.or_lt_two_pow (by omega) ?_
    split
    · exact Nat.pow_lt_pow_right (by decide) (by omega)
    · exact Nat.two_pow_pos _

/-- Masks of a relation: its rows. -/
def conv (r : List Nat) : List Nat := (List.range r.length).map fun i => mask (fun k => (r.getD k 0).testBit i) r.length

/-- The state of 'converse' behind i rows and some members of the next one. -/
def convTo (r : List Nat) (i : Nat) (ks : List Nat) : List Nat := (List.range r.length).map fun k => mask (fun j => (r.getD j 0).testBit k) i ||| (if k ∈ ks then 2 ^ i else 0)

theorem convTo_len (r : List Nat) (i : Nat) (ks : List Nat) : (convTo r i ks).length = r.length := by simp [convTo]
theorem convTo_get {r : List Nat} {i : Nat} {ks : List Nat} {k : Nat} (h : k < (convTo r i ks).length) : (convTo r i ks)[k] = mask (fun j => (r.getD j 0).testBit k) i ||| (if k ∈ ks then 2 ^ i else 0) := by simp [convTo]
theorem convTo_zero (r : List Nat) : convTo r 0 [] = List.replicate r.length 0 := by
  apply List.ext_getElem
  · simp [convTo]
  · intro k h1 h2
    simp [convTo, mask]
theorem convTo_next (r : List Nat) (i : Nat) (hi : r.getD i 0 < 2 ^ 63) : convTo r i (mem (r.getD i 0)) = convTo r (i + 1) [] := by
  apply List.ext_getElem
  · simp [convTo]
  · intro k h1 h2
    rw [convTo_get, convTo_get]
    show _ = mask _ i ||| _ ||| _
    simp only [mem_iff hi]
    simp
theorem convTo_all (r : List Nat) : convTo r r.length [] = conv r := by
  apply List.ext_getElem
  · simp [convTo, conv]
  · intro k h1 h2
    rw [convTo_get]
    simp [conv]
theorem convTo_set {r : List Nat} {i : Nat} {ks : List Nat} {k : Nat} (hk : k < (convTo r i ks).length) : (convTo r i ks).set k ((convTo r i ks)[k] ||| 2 ^ i) = convTo r i (ks ++ [k]) := by
  apply List.ext_getElem
  · simp [convTo]
  · intro j h1 h2
    rw [List.getElem_set]
    split
    · rename_i e
      subst e
      rw [convTo_get, convTo_get]
      by_cases h : k ∈ ks
      · simp [h, Nat.or_assoc]
      · simp [h]
    · rename_i e
      rw [convTo_get, convTo_get]
      have : (j ∈ ks ++ [k]) = (j ∈ ks) := by simp; omega
      simp only [this]
theorem convTo_lt {r : List Nat} {i : Nat} {ks : List Nat} (hi : i < 63) : ∀ m ∈ convTo r i ks, m < 2 ^ 63 := by
  intro m hm
  obtain ⟨k, hk, rfl⟩ := List.mem_iff_getElem.1 hm
  rw [convTo_get]
  refine or_lt63 (Nat.lt_of_lt_of_le (mask_lt _ _) (Nat.pow_le_pow_right (by decide) (by omega))) ?_
  split
  · exact pow_lt63 hi
  · exact Nat.two_pow_pos _
theorem nats_set (xs : List Nat) (k m : Nat) : (nats xs).set k (.int .i64 (m : Int)) = nats (xs.set k m) := by simp [nats, List.map_set]

set_option maxRecDepth 100000 in
theorem converse_c (r : List Nat) (v : Value) (w : World) (hT : Tab w) (hn : r.length ≤ 24) (hr : ∀ m ∈ r, m < 2 ^ r.length) (hv : Rd w w.heap.size v (nats r)) :
    Calls Tryz.prog 60 #[v] w (OutRow 2 (nats (conv r)) w) := by
  obtain ⟨A, c, rfl, h1, h2, HC⟩ := hv.cells
  clear hv
  rw [nats_length] at h1 h2 ⊢
  have HR := Lib.hid hr
  clear hr
  have hmk := make_int r.length (by omega)
  go_enter Tryz.func60, Tryz.ntmps60
  go_wp2
  go_loopw [4, 5, 7, 13] (fun _ _ _ s13 wr => ∃ i : Nat, i ≤ r.length ∧ s13 = .int .i64 i ∧ Own wr w.heap.size 2 (.slice (some ⟨w.heap.size, 0, none⟩) r.length r.length) (nats (convTo r i [])) ∧ Below w.heap.size w wr ∧ w.heap.size < wr.heap.size) (fun _ _ _ s13 _ => r.length - (intOf s13).toNat)
  case atStart => exact ⟨0, Nat.zero_le _, rfl, by rw [convTo_zero]; exact own_made w _ (by omega), (Below.refl _ w).alloc (Nat.le_refl _) _, by simp⟩
  case round =>
    obtain ⟨i, hi, rfl, HO, HB, hsz⟩ := hrel
    obtain ⟨wo, rfl⟩ : ∃ wo : World, wo = wr := ⟨_, rfl⟩
    by_cases hlt : i < r.length
    · obtain ⟨b, o, rfl, _, hb, hcs⟩ := HC.at_ i _ (nats_get hlt)
      have hcell : wo.cell? ⟨b, o + i, none⟩ = some (.int .i64 ((r[i] : Nat) : Int)) := (HB.cell (p := ⟨b, o + i, none⟩) hb).trans hcs
      have hm0 := HR.out _ (List.getElem_mem hlt)
      have hm : r[i] < 2 ^ 63 := Nat.lt_of_lt_of_le hm0 (Nat.pow_le_pow_right (by decide) (by omega))
      have c := members_c r[i] hm wo (hT.below HB)
      have hri : r.getD i 0 = r[i] := by simp [List.getD_eq_getElem?_getD, hlt]
      generalize r[i] = ri at c hcell hm hm0 hri
      have Hri := Lib.hid hri
      have Hm0 := Lib.hid hm0
      clear hri hcs hm0
      go_wp2_with (go_at_call 43; refine c.mono ?_; rintro e w1 h1; obtain ⟨A1, c1, rfl, g1, G1, HB1⟩ := h1.read; clear h1)
      rw [nats_length] at g1 ⊢
      have hks : (mem ri).length ≤ 63 := mem_length_le ri
      have HO1 : Own w1 w.heap.size 2 (.slice (some ⟨w.heap.size, 0, none⟩) r.length r.length) (nats (convTo r i [])) := HO.below HB1 (Nat.le_refl _)
      go_loopw [7, 21] (fun _ s21 wx => ∃ p : Nat, p ≤ (mem ri).length ∧ s21 = .int .i64 p ∧ Own wx w.heap.size 2 (.slice (some ⟨w.heap.size, 0, none⟩) r.length r.length) (nats (convTo r i ((mem ri).take p))) ∧ w1.grownBy wx (some w.heap.size)) (fun _ s21 _ => (mem ri).length - (intOf s21).toNat)
      case atStart => exact ⟨0, Nat.zero_le _, rfl, by simpa using HO1, World.grownBy.refl _ _⟩
      case round =>
        obtain ⟨p, hp, rfl, HX, HG⟩ := hrel
        by_cases hlp : p < (mem ri).length
        · obtain ⟨b1, o1, rfl, hL1, hb1, hc1⟩ := (G1.grown HG hsz).at_ p _ (nats_get hlp)
          have hkm := (mem_iff hm).1 (List.getElem_mem hlp)
          have hst : (mem ri).take (p + 1) = (mem ri).take p ++ [(mem ri)[p]] := List.take_succ_eq_append_getElem hlp
          generalize (mem ri)[p] = k at hc1 hkm hst
          have Hk := Lib.hid hkm
          have Hst := Lib.hid hst
          have hkn : k < r.length := by
            apply Nat.lt_of_not_le
            intro hle
            have := Nat.testBit_lt_two_pow (Nat.lt_of_lt_of_le Hm0.out (Nat.pow_le_pow_right (by decide) hle))
            rw [this] at hkm
            cases hkm
          clear hkm hst
          have hkc : k < (convTo r i ((mem ri).take p)).length := by rw [convTo_len]; exact hkn
          have hcx : wr.cell? ⟨w.heap.size, k, none⟩ = some (.int .i64 (((convTo r i ((mem ri).take p))[k] : Nat) : Int)) := HX.cellAt (nats_get hkc)
          have hfx : wr.frozen? ⟨w.heap.size, k, none⟩ = false := HX.frozenAt k
          have Hset := Lib.hid (convTo_set hkc)
          have hx63 := convTo_lt (by omega) _ (List.getElem_mem hkc)
          generalize (convTo r i ((mem ri).take p))[k] = x at hcx Hset hx63
          have eor := or_pow x i hx63 (by omega)
          have co := (one_c i (by omega) wr.drew).mono fun _ _ ⟨h1, h2⟩ => (⟨h1, h2.symm⟩ : _ ∧ _)
          go_wp2
          go_still_tail 8, (by kernel_rfl)
          still_call co
          repeat still_step
          refine wpStill_nil ?_
          change wpList _ _ _ _ _ wr.drew
          go_wp2
          obtain ⟨hs1, hs2⟩ := Own.stored HX k (.int .i64 ((x ||| 2 ^ i : Nat) : Int))
          rw [nats_set, Hset.out, ← Hst.out] at hs1
          go_roundw
          case rel =>
            refine ⟨p + 1, by omega, by go_num, ?_, ?_⟩
            · exact hs1.drew
            · exact grown_drew (HG.trans hs2)
          case measure => simp [intOf]; omega
        · have hpe : p = (mem ri).length := by omega
          subst hpe
          go_wp2
          rw [List.take_length] at HX
          go_roundw
          case rel =>
            have hn := convTo_next r i (by rw [Hri.out]; exact hm)
            rw [Hri.out] at hn
            exact ⟨i + 1, by omega, by go_num, by rw [← hn]; exact HX, (HB.trans (HB1.mono HB.size)).trans (below_grown HG (Nat.le_refl _) (Nat.le_trans HB.size HB1.size)), Nat.lt_of_lt_of_le hsz (Nat.le_trans HB1.size HG.size)⟩
          case measure => simp [intOf]; omega
    · have hie : i = r.length := by omega
      subst hie
      go_wp2
      go_ret
      rw [convTo_all] at HO
      exact ⟨_, rfl, HO, HB⟩
end Go.Proofs.YtopfcpnilblieaaGreatDoor
