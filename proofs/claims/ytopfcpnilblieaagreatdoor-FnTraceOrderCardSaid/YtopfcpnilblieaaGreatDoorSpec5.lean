/- the reference's heights -/
import Derived.Test.YtopfcpnilblieaaGreatDoorSpec4
namespace Go.Proofs.YtopfcpnilblieaaGreatDoor
open Go.RowKit

def depB (ds : List Nat) (a b : Nat) : Bool := (ds.getD a 0).testBit b
theorem sDep_d (n : Int) (v : Value) (ds : List Nat) (a b : Nat) (B : Nat) (w : World) (hd : ∀ m ∈ ds, m < 2 ^ 63) (h63 : b < 63) (ha : a < ds.length) (hB : B ≤ w.heap.size) (hv : Rd w B v (nats ds)) :
    Calls Tryz.prog 56 #[.agg #[.int .i64 n, v], .int .i64 a, .int .i64 b] w fun e w' => e = .returned (.bool (depB ds a b)) ∧ Below w.heap.size w w' := sDep_c n v ds a b B w hd h63 ha hB hv
/-- The height of letter i, the letters before k looked at. -/
def hAt (ds ws hs : List Nat) (i : Nat) : Nat → Nat
  | 0 => 1
  | k + 1 => if depB ds (ws.getD k 0) (ws.getD i 0) = true ∧ hAt ds ws hs i k < hs.getD k 0 + 1 then hs.getD k 0 + 1 else hAt ds ws hs i k
def hts (ds ws : List Nat) : Nat → List Nat
  | 0 => []
  | i + 1 => hts ds ws i ++ [hAt ds ws (hts ds ws i) i i]
theorem hts_length (ds ws : List Nat) : ∀ i, (hts ds ws i).length = i
  | 0 => rfl
  | i + 1 => by simp [hts, hts_length ds ws i]
theorem hAt_pos (ds ws hs : List Nat) (i : Nat) : ∀ k, 1 ≤ hAt ds ws hs i k
  | 0 => Nat.le_refl _
  | k + 1 => by
    have := hAt_pos ds ws hs i k
    unfold hAt
    split <;> omega
theorem hAt_le (ds ws hs : List Nat) (i m : Nat) (h : ∀ x ∈ hs, x ≤ m) : ∀ k, hAt ds ws hs i k ≤ m + 1
  | 0 => by simp [hAt]
  | k + 1 => by
    have h1 := hAt_le ds ws hs i m h k
    have h2 : hs.getD k 0 ≤ m := by
      by_cases hk : k < hs.length
      · rw [getD_at hk]; exact h _ (List.getElem_mem hk)
      · simp [List.getD_eq_getElem?_getD, List.getElem?_eq_none (Nat.le_of_not_lt hk)]
    unfold hAt
    split <;> omega
theorem hts_le (ds ws : List Nat) : ∀ i, ∀ x ∈ hts ds ws i, 1 ≤ x ∧ x ≤ i
  | 0, x, hx => by simp [hts] at hx
  | i + 1, x, hx => by
    have h := hts_le ds ws i
    simp only [hts, List.mem_append, List.mem_singleton] at hx
    rcases hx with hx | rfl
    · have := h x hx; omega
    · exact ⟨hAt_pos _ _ _ _ _, hAt_le ds ws _ i i (fun y hy => (h y hy).2) i⟩

theorem World.wrapN (h : Nat) (hh : h ≤ 1000000) : IntKind.i64.wrap ((h : Int) + 1) = (h : Int) + 1 := by rw [IntKind.wrap_i64]; omega

set_option maxRecDepth 100000 in
set_option maxHeartbeats 6000000 in
theorem sHeights_c (n : Int) (v vw : Value) (ds ws : List Nat) (w : World) (hd : ∀ m ∈ ds, m < 2 ^ 63) (h63 : ds.length ≤ 62) (hw : ∀ a ∈ ws, a < ds.length) (hl : ws.length ≤ 1000) (hv : Rd w w.heap.size v (nats ds)) (hrw : Rd w w.heap.size vw (nats ws)) :
    Calls Tryz.prog 74 #[.agg #[.int .i64 n, v], vw] w (OutRow 2 (nats (hts ds ws ws.length)) w) := by
  have hb1 : Below w.heap.size w (w.alloc (.cells #[.int .i64 n, v] 26)) := (Below.refl _ w).alloc (Nat.le_refl _) _
  have q0 : (w.alloc (.cells #[.int .i64 n, v] 26)).cell? ⟨w.heap.size, 0, none⟩ = some (.int .i64 n) := by simp [go_sem]
  have q1 : (w.alloc (.cells #[.int .i64 n, v] 26)).cell? ⟨w.heap.size, 1, none⟩ = some v := by simp [go_sem]
  obtain ⟨A, c, rfl, h1, h2, HC⟩ := hrw.cells
  rw [nats_length] at h1 h2 ⊢
  have HD := Lib.hid hd
  have HWS := Lib.hid hw
  have HV := Lib.hid hv
  have HB1 := Lib.hid hb1
  have Q0 := Lib.hid q0
  have Q1 := Lib.hid q1
  clear hrw hd hw hv hb1 q0 q1
  go_enter Tryz.func74, Tryz.ntmps74
  go_wp2
  go_loopw [5, 6, 7, 8] (fun s5 s6 _ _ wr => ∃ i : Nat, i ≤ ws.length ∧ s6 = .int .i64 i ∧ Own wr (w.heap.size + 1) 2 s5 (nats (hts ds ws i)) ∧ Below (w.heap.size + 1) (w.alloc (.cells #[.int .i64 n, v] 26)) wr) (fun _ s6 _ _ _ => ws.length - (intOf s6).toNat)
  case atStart =>
    have hz : w.heap.size + 1 ≤ (w.alloc (.cells #[.int .i64 n, v] 26)).heap.size := by simp
    exact ⟨0, Nat.zero_le _, rfl, by simpa [Own, nats, hts] using World.ownsRow_lit (w.alloc (.cells #[.int .i64 n, v] 26)) #[] 0 (base := w.heap.size + 1) hz (by decide) rfl, (Below.refl _ _).alloc hz _⟩
  case round =>
    obtain ⟨i, hi, rfl, HO, HB⟩ := hrel
    obtain ⟨wo, rfl⟩ : ∃ wo : World, wo = wr := ⟨_, rfl⟩
    have hsz : w.heap.size + 1 ≤ wo.heap.size := by simpa using HB.size
    have HBw : Below w.heap.size w wo := HB1.out.trans (HB.mono (by omega))
    by_cases hlt : i < ws.length
    · obtain ⟨b, o, rfl, _, hbL, hci⟩ := (HC.below HBw).at_ i _ (nats_get hlt)
      have hsucc : hts ds ws (i + 1) = hts ds ws i ++ [hAt ds ws (hts ds ws i) i i] := rfl
      have hlen := hts_length ds ws i
      have hle := fun x hx => (hts_le ds ws i x hx)
      have hga := getD_at hlt
      have hwi := HWS.out _ (List.getElem_mem hlt)
      generalize hts ds ws i = hs at HO hsucc hlen hle
      have HLE := Lib.hid hle
      have HSU := Lib.hid hsucc
      have HGA := Lib.hid hga
      generalize ws[i] = y at hci hwi HGA
      clear hsucc hle hga
      have HO0 := HO
      obtain ⟨Ah, ch, rfl, g1, g2, HCh⟩ := HO.cells
      rw [nats_length, hlen] at g1 g2 HO0 ⊢
      have HLN := Lib.hid hlen
      clear hlen HO
      go_wp2
      go_loopw [7, 8] (fun s7 s8 wx => ∃ k : Nat, k ≤ i ∧ s7 = .int .i64 (hAt ds ws hs i k : Nat) ∧ s8 = .int .i64 k ∧ Below wo.heap.size wo wx) (fun _ s8 _ => i - (intOf s8).toNat)
      case atStart => exact ⟨0, Nat.zero_le _, rfl, rfl, Below.refl _ _⟩
      case round =>
        obtain ⟨k, hk, rfl, rfl, HX⟩ := hrel
        obtain ⟨wx, rfl⟩ : ∃ wx : World, wx = wr := ⟨_, rfl⟩
        by_cases hlk : k < i
        · have hkl : k < hs.length := by have := HLN.out; omega
          have hkw : k < ws.length := by omega
          obtain ⟨b2, o2, hbo, _, _, hck⟩ := (HC.below HBw).at_ k _ (nats_get hkw)
          obtain ⟨rfl, rfl⟩ : b = b2 ∧ o = o2 := by simpa using hbo
          clear hbo
          obtain ⟨bh, oh, rfl, _, hbh, hch⟩ := HCh.at_ k _ (nats_get hkl)
          have hwk := HWS.out _ (List.getElem_mem hkw)
          have hgk := getD_at hkw
          have hgh := getD_at hkl
          have hhk := HLE.out _ (List.getElem_mem hkl)
          have hst : hAt ds ws hs i (k + 1) = if depB ds (ws.getD k 0) (ws.getD i 0) = true ∧ hAt ds ws hs i k < hs.getD k 0 + 1 then hs.getD k 0 + 1 else hAt ds ws hs i k := rfl
          have hub := hAt_le ds ws hs i i (fun x hx => (HLE.out x hx).2) k
          rw [hgk, hgh, HGA.out] at hst
          generalize ws[k] = x at hck hwk hst
          generalize hs[k] = h at hch hhk hst
          generalize hAt ds ws hs i k = hA at hst hub ⊢
          have HST := Lib.hid hst
          clear hst hgk hgh
          have hbs : b < wo.heap.size := by omega
          have hS : ∀ W, Below wo.heap.size wo W → (W.cell? ⟨w.heap.size, 0, none⟩ = some (.int .i64 n) ∧ W.cell? ⟨w.heap.size, 1, none⟩ = some v ∧ W.cell? ⟨b, o + k, none⟩ = some (.int .i64 x) ∧ W.cell? ⟨b, o + i, none⟩ = some (.int .i64 y) ∧ W.cell? ⟨bh, oh + k, none⟩ = some (.int .i64 h) ∧ Below wo.heap.size wo W) := fun W hW =>
            ⟨(hW.cell (p := ⟨w.heap.size, 0, none⟩) (show w.heap.size < wo.heap.size by omega)).trans ((HB.cell (p := ⟨w.heap.size, 0, none⟩) (by simp)).trans Q0.out),
              (hW.cell (p := ⟨w.heap.size, 1, none⟩) (show w.heap.size < wo.heap.size by omega)).trans ((HB.cell (p := ⟨w.heap.size, 1, none⟩) (by simp)).trans Q1.out),
              (hW.cell (p := ⟨b, o + k, none⟩) hbs).trans hck, (hW.cell (p := ⟨b, o + i, none⟩) hbs).trans hci, (hW.cell (p := ⟨bh, oh + k, none⟩) hbh).trans hch, hW⟩
          have cd : ∀ W, Below wo.heap.size wo W → Calls Tryz.prog 56 #[.agg #[.int .i64 n, v], .int .i64 x, .int .i64 y] W fun e w' => e = .returned (.bool (depB ds x y)) ∧ (w'.cell? ⟨w.heap.size, 0, none⟩ = some (.int .i64 n) ∧ w'.cell? ⟨w.heap.size, 1, none⟩ = some v ∧ w'.cell? ⟨b, o + k, none⟩ = some (.int .i64 x) ∧ w'.cell? ⟨b, o + i, none⟩ = some (.int .i64 y) ∧ w'.cell? ⟨bh, oh + k, none⟩ = some (.int .i64 h) ∧ Below wo.heap.size wo w') := fun W hW =>
            (sDep_d n v ds x y w.heap.size W HD.out (by omega) hwk (by have := hW.size; omega) (HV.out.below (HBw.trans (hW.mono (by omega))))).mono fun e w' ⟨he, hb⟩ => ⟨he, hS w' (hW.trans (hb.mono hW.size))⟩
          have hS0 := hS _ HX
          have hS1 := hS _ (below_drewN HX 1)
          obtain ⟨k0, k1, k2, k3, k4, _⟩ := hS _ HX
          clear hS
          have hsum := World.wrapN h (by omega)
          generalize hdp : depB ds x y = dp at cd
          have HDP := Lib.hid hdp
          clear hdp
          cases dp with
          | false =>
            clear hS0 hS1
            go_wp2
            first
              | (go_region_with (go_at_call 56; refine (cd _ ?_).mono ?_; (first | exact HX | exact HX.drew | exact HX.drew.drew | exact HX.drew.drew.drew | exact below_drewN HX _); rintro e w' ⟨rfl, hb⟩))
              | fail
            all_goals
              obtain ⟨j0, j1, j2, j3, j4, HX2⟩ := hb
              go_wp2
              go_roundw
              case rel => exact ⟨k + 1, by omega, by rw [HST.out, HDP.out]; simp, by go_num, HX2⟩
              case measure => simp [intOf]; omega
          | true =>
            by_cases hgt : hA < h + 1
            · have hgt' : decide ((hA : Int) < (h : Int) + 1) = true := by simp; omega
              have hgt2 : (hA : Int) < (h : Int) + 1 := by omega
              have HG := Lib.hid hgt
              clear hgt
              go_wp2
              first
                | (go_region_held3 (fun W => W.cell? ⟨w.heap.size, 0, none⟩ = some (.int .i64 n) ∧ W.cell? ⟨w.heap.size, 1, none⟩ = some v ∧ W.cell? ⟨b, o + k, none⟩ = some (.int .i64 x) ∧ W.cell? ⟨b, o + i, none⟩ = some (.int .i64 y) ∧ W.cell? ⟨bh, oh + k, none⟩ = some (.int .i64 h) ∧ Below wo.heap.size wo W) (first | exact hS0 | exact hS1 | assumption)
                    (first | (go_at_call 56; refine (cd _ (And.right (And.right (And.right (And.right (And.right (by assumption))))))).mono ?_; rintro e w' ⟨rfl, hb⟩)))
                | fail
              obtain ⟨j0, j1, j2, j3, j4, HX2⟩ := hb
              go_wp2
              go_roundw
              case rel => exact ⟨k + 1, by omega, by rw [HST.out, HDP.out]; simp [HG.out], by go_num, HX2⟩
              case measure => simp [intOf]; omega
            · have hgt' : decide ((hA : Int) < (h : Int) + 1) = false := by simp; omega
              have hgt2 : ¬ (hA : Int) < (h : Int) + 1 := by omega
              have HG := Lib.hid hgt
              clear hgt
              go_wp2
              first
                | (go_region_held3 (fun W => W.cell? ⟨w.heap.size, 0, none⟩ = some (.int .i64 n) ∧ W.cell? ⟨w.heap.size, 1, none⟩ = some v ∧ W.cell? ⟨b, o + k, none⟩ = some (.int .i64 x) ∧ W.cell? ⟨b, o + i, none⟩ = some (.int .i64 y) ∧ W.cell? ⟨bh, oh + k, none⟩ = some (.int .i64 h) ∧ Below wo.heap.size wo W) (first | exact hS0 | exact hS1 | assumption)
                    (first | (go_at_call 56; refine (cd _ (And.right (And.right (And.right (And.right (And.right (by assumption))))))).mono ?_; rintro e w' ⟨rfl, hb⟩)))
                | fail
              obtain ⟨j0, j1, j2, j3, j4, HX2⟩ := hb
              go_wp2
              go_roundw
              case rel => exact ⟨k + 1, by omega, by rw [HST.out, HDP.out]; simp [HG.out], by go_num, HX2⟩
              case measure => simp [intOf]; omega
        · have hke : k = i := by omega
          subst hke
          have HO2 := HO0.below HX (Nat.le_refl _)
          have HB2 := HB.trans (HX.mono hsz)
          have hroom : Room (nats hs).length := room (by rw [nats_length]; have := HLN.out; omega)
          generalize hAt ds ws hs k k = hA at HSU ⊢
          go_wp2_with (at_builtin; refine app_int HO2 HB2 (by have := HX.size; omega) hroom 24 Tryz.underlying24 rfl _ _ rfl _ rfl rfl ?_; intro v1 w1 HO3 HB3 _ _)
          go_roundw
          case rel => exact ⟨k + 1, by omega, by go_num, by rw [HSU.out, nats_append]; exact HO3, HB3⟩
          case measure => simp [intOf]; omega
    · have hke : i = ws.length := by omega
      subst hke
      go_wp2
      go_ret
      exact ⟨_, rfl, HO.base (by omega), HBw⟩
end Go.Proofs.YtopfcpnilblieaaGreatDoor
