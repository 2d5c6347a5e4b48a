/- the reference's comparison of traces -/
import Derived.Test.YtopfcpnilblieaaGreatDoorSpec6
import Derived.Deep.RegionWith
namespace Go.Proofs.YtopfcpnilblieaaGreatDoor
open Go.RowKit

def stepS (p q : Nat) : Int := if beforeI (ints (mem p)) (ints (mem q)) = true then -1 else if beforeI (ints (mem q)) (ints (mem p)) = true then 1 else 0
def stepsS : List Nat → List Nat → Int
  | x :: xs, y :: ys => if stepS x y = 0 then stepsS xs ys else stepS x y
  | _, _ => 0
def cmpS (ds us vs : List Nat) : Int :=
  if us.length = vs.length then
    (if ordI (ints (letBefore us 8)) (ints (letBefore vs 8)) = 0 then stepsS (foataH ds us us.length) (foataH ds vs vs.length) else ordI (ints (letBefore us 8)) (ints (letBefore vs 8)))
  else if us.length < vs.length then -1 else 1
theorem stepsS_end {xs ys : List Nat} {k : Nat} (h : xs.length ≤ k ∨ ys.length ≤ k) : stepsS (xs.drop k) (ys.drop k) = 0 := by
  rcases h with h | h
  · rw [List.drop_eq_nil_of_le h]; rfl
  · rw [List.drop_eq_nil_of_le h]
    cases xs.drop k <;> rfl
theorem stepsS_step {xs ys : List Nat} {k : Nat} (h : k < xs.length) (h' : k < ys.length) : stepsS (xs.drop k) (ys.drop k) = if stepS xs[k] ys[k] = 0 then stepsS (xs.drop (k + 1)) (ys.drop (k + 1)) else stepS xs[k] ys[k] := by
  rw [List.drop_eq_getElem_cons h, List.drop_eq_getElem_cons h']; rfl

/-- A new row, and what lay before. -/
def Out2 (T : Nat) (xs : List Value) (B : Nat) (w0 w : World) (e : Ending) (w' : World) : Prop := ∃ v, e = .returned v ∧ Own w' w.heap.size T v xs ∧ Below w.heap.size w w' ∧ Below B w0 w'
theorem out2 {f : FuncId} {args : Array Value} {T : Nat} {xs : List Value} {w0 w : World} {B : Nat} (h : Calls Tryz.prog f args w (OutRow T xs w)) (hb : Below B w0 w) (hB : B ≤ w.heap.size) : Calls Tryz.prog f args w (Out2 T xs B w0 w) :=
  h.mono fun _ _ ⟨v, he, ho, h1⟩ => ⟨v, he, ho, h1, hb.trans (h1.mono hB)⟩

/-- What holds of the world when one compares steps. -/
structure At2 (W : World) (v1 v2 : Value) (xs ys : List Nat) : Prop where
  one : Rd W W.heap.size v1 (nats xs)
  two : Rd W W.heap.size v2 (nats ys)
theorem At2.steps {W W5 : World} {v1 v2 : Value} {xs ys : List Nat} {b B : Nat} (h5 : Own W5 b B v1 (nats xs)) {W' : World} (hb : Below W5.heap.size W5 W') (hr : Rd W' W'.heap.size v2 (nats ys)) : At2 W' v1 v2 xs ys := ⟨(h5.below hb (Nat.le_refl _)).rd, hr⟩

set_option maxRecDepth 100000 in
set_option maxHeartbeats 6000000 in
theorem sCompare_c (n : Int) (v vu vv : Value) (ds us vs : List Nat) (w : World) (hd : ∀ m ∈ ds, m < 2 ^ 63) (h8 : ds.length ≤ 8) (hu : ∀ a ∈ us, a < ds.length) (hvv : ∀ a ∈ vs, a < ds.length) (hul : us.length ≤ 1000) (hvl : vs.length ≤ 1000)
    (hv : Rd w w.heap.size v (nats ds)) (hru : Rd w w.heap.size vu (nats us)) (hrv : Rd w w.heap.size vv (nats vs)) :
    Calls Tryz.prog 22 #[.agg #[.int .i64 n, v], vu, vv] w fun e w' => e = .returned (.int .i64 (cmpS ds us vs)) ∧ Below w.heap.size w w' := by
  have hb1 : Below w.heap.size w (w.alloc (.cells #[.int .i64 n, v] 26)) := (Below.refl _ w).alloc (Nat.le_refl _) _
  have q0 : (w.alloc (.cells #[.int .i64 n, v] 26)).cell? ⟨w.heap.size, 0, none⟩ = some (.int .i64 n) := by simp [go_sem]
  have q1 : (w.alloc (.cells #[.int .i64 n, v] 26)).cell? ⟨w.heap.size, 1, none⟩ = some v := by simp [go_sem]
  have hz1 : (w.alloc (.cells #[.int .i64 n, v] 26)).heap.size = w.heap.size + 1 := by simp
  obtain ⟨Au, cu, rfl, u1, u2, HCu⟩ := hru.cells
  obtain ⟨Av, cv, rfl, v1, v2, HCv⟩ := hrv.cells
  simp only [nats_length] at *
  clear HCu HCv
  by_cases hlen : us.length = vs.length
  · have hne : ((us.length : Int) != (vs.length : Int)) = false := by simp [hlen]
    have E : Hid (cmpS ds us vs = if ordI (ints (letBefore us 8)) (ints (letBefore vs 8)) = 0 then stepsS (foataH ds us us.length) (foataH ds vs vs.length) else ordI (ints (letBefore us 8)) (ints (letBefore vs 8))) := if_pos hlen
    have lu := sLetters_c (.slice Au us.length cu) us _ hul ((hru.below hb1).mono hb1.size)
    have lv := fun W (hW : Below w.heap.size w W) => sLetters_c (.slice Av vs.length cv) vs W hvl ((hrv.below hW).mono hW.size)
    have fu := fun W (hW : Below (w.heap.size + 1) (w.alloc (.cells #[.int .i64 n, v] 26)) W) => out2 (sFoata_c n v (.slice Au us.length cu) ds us W hd (by omega) hu hul ((hv.below (hb1.trans (hW.mono (by omega)))).mono (hb1.trans (hW.mono (by omega))).size) ((hru.below (hb1.trans (hW.mono (by omega)))).mono (hb1.trans (hW.mono (by omega))).size)) hW (by have := hW.size; omega)
    have fv := fun W (hW : Below (w.heap.size + 1) (w.alloc (.cells #[.int .i64 n, v] 26)) W) => out2 (sFoata_c n v (.slice Av vs.length cv) ds vs W hd (by omega) hvv hvl ((hv.below (hb1.trans (hW.mono (by omega)))).mono (hb1.trans (hW.mono (by omega))).size) ((hrv.below (hb1.trans (hW.mono (by omega)))).mono (hb1.trans (hW.mono (by omega))).size)) hW (by have := hW.size; omega)
    have HU : Hid (∀ s ∈ foataH ds us us.length, s < 2 ^ 8) := foataH_lt (by decide) (fun a ha => Nat.lt_of_lt_of_le (hu a ha) h8) _
    have HV : Hid (∀ s ∈ foataH ds vs vs.length, s < 2 ^ 8) := foataH_lt (by decide) (fun a ha => Nat.lt_of_lt_of_le (hvv a ha) h8) _
    generalize foataH ds us us.length = F at fu HU E
    generalize foataH ds vs vs.length = G at fv HV E
    have HB1 := Lib.hid hb1
    have Q0 := Lib.hid q0
    have Q1 := Lib.hid q1
    have HZ1 := Lib.hid hz1
    clear hlen hru hrv hv hd hu hvv hb1 q0 q1
    go_enter Tryz.func22, Tryz.ntmps22
    go_wp2_with fail
    refine lu.mono ?_
    rintro e W1 ⟨v1, rfl, HO1, HBa⟩
    rw [hz1] at HBa
    clear hz1
    have B1 : Below w.heap.size w W1 := HB1.out.trans (HBa.mono (by omega))
    go_wp2_with fail
    refine (lv W1 B1).mono ?_
    rintro e W2 ⟨v2, rfl, HO2, HBb⟩
    have hs1 : w.heap.size + 1 ≤ W1.heap.size := by have := HBa.size; rw [HZ1.out] at this; exact this
    have HB2 := HBa.trans (HBb.mono hs1)
    have co := sOrder_c v1 v2 (ints (letBefore us 8)) (ints (letBefore vs 8)) _ W2 (Nat.le_refl _) (by rw [← nats_ints]; exact (HO1.below HBb (Nat.le_refl _)).rd) (by rw [← nats_ints]; exact HO2.rd)
    generalize hc : ordI (ints (letBefore us 8)) (ints (letBefore vs 8)) = c at co E
    by_cases hz : c = 0
    · subst hz
      have HC := Lib.hid hc
      clear hc HO1 HO2
      go_wp2_with (go_at_call 48; refine co.mono ?_; rintro e w' ⟨rfl, q, rfl⟩)
      have HB3 := below_drewN HB2 q
      have k0 := (HB3.cell (p := ⟨w.heap.size, 0, none⟩) (by simp)).trans Q0.out
      have k1 := (HB3.cell (p := ⟨w.heap.size, 1, none⟩) (by simp)).trans Q1.out
      generalize W2.drewN q = W3 at HB3 k0 k1 ⊢
      have HK : Hid (∀ W, Below (w.heap.size + 1) (w.alloc (.cells #[.int .i64 n, v] 26)) W → W.cell? ⟨w.heap.size, 0, none⟩ = some (.int .i64 n) ∧ W.cell? ⟨w.heap.size, 1, none⟩ = some v) := fun W hW => ⟨(hW.cell (p := ⟨w.heap.size, 0, none⟩) (by simp)).trans Q0.out, (hW.cell (p := ⟨w.heap.size, 1, none⟩) (by simp)).trans Q1.out⟩
      go_region_with (go_at_call 50; first
        | (with_reducible refine (fu _ ?_).mono ?_; first | exact HB3 | exact HB3.drew | exact HB3.drew.drew | exact HB3.drew.drew.drew | exact below_drewN HB3 _
           rintro e W4 ⟨v3, rfl, HO3, HB4, HX4⟩; obtain ⟨j0, j1⟩ := HK.out _ HX4)
        | (with_reducible refine (fv _ ?_).mono ?_; first | exact HX4 | exact HX4.drew | exact HX4.drew.drew | exact below_drewN HX4 _
           rintro e W5 ⟨v4, rfl, HO4, HB5, HX5⟩))
      all_goals
        have r3 : Rd W5 W5.heap.size v3 (nats F) := by
          first
            | exact (HO3.below HB5 (Nat.le_refl _)).rd
            | exact (HO3.drew.below HB5 (Nat.le_refl _)).rd
            | exact (HO3.drew.drew.below HB5 (Nat.le_refl _)).rd
        have r4 := HO4.rd
        have HBF : Below w.heap.size w W5 := HB1.out.trans (HX5.mono (by omega))
        clear HO3 HO4 HB4 HB5 HX4 j0 j1 k0 k1 fu fv HB3 HX5
        obtain ⟨A3, c3, rfl, l3, m3, HC3⟩ := r3.cells
        obtain ⟨A4, c4, rfl, l4, m4, HC4⟩ := r4.cells
        simp only [nats_length] at l3 m3 l4 m4 ⊢
        clear r3 r4
        go_wp2
        go_loopw [10, 11, 12] (fun s10 _ _ wr => ∃ k : Nat, k ≤ F.length ∧ k ≤ G.length ∧ s10 = .int .i64 k ∧ Below W5.heap.size W5 wr ∧ Hid (stepsS F G = stepsS (F.drop k) (G.drop k))) (fun s10 _ _ _ => F.length - (intOf s10).toNat)
        case atStart => exact ⟨0, Nat.zero_le _, Nat.zero_le _, rfl, Below.refl _ _, by simp [Hid]⟩
        case round =>
          obtain ⟨k, hk1, hk2, rfl, HX, HL⟩ := hrel
          by_cases hlt : k < F.length
          · by_cases hlt2 : k < G.length
            · obtain ⟨b3, o3, rfl, _, hb3, hc3⟩ := HC3.at_ k _ (nats_get hlt)
              obtain ⟨b4, o4, rfl, _, hb4, hc4⟩ := HC4.at_ k _ (nats_get hlt2)
              have hp := HU.out _ (List.getElem_mem hlt)
              have hq := HV.out _ (List.getElem_mem hlt2)
              have hs := stepsS_step hlt hlt2
              generalize F[k] = p at hc3 hp hs
              generalize G[k] = q at hc4 hq hs
              have clp := fun W (hW : Below W5.heap.size W5 W) => out2 (sList_c p hp W) hW hW.size
              have clq := fun W (hW : Below W5.heap.size W5 W) => out2 (sList_c q hq W) hW hW.size
              have HCC : Hid (∀ W, Below W5.heap.size W5 W → W.cell? ⟨b3, o3 + k, none⟩ = some (.int .i64 p) ∧ W.cell? ⟨b4, o4 + k, none⟩ = some (.int .i64 q)) := fun W hW => ⟨(hW.cell (p := ⟨b3, o3 + k, none⟩) hb3).trans hc3, (hW.cell (p := ⟨b4, o4 + k, none⟩) hb4).trans hc4⟩
              obtain ⟨d3, d4⟩ := HCC.out _ HX
              have HS := Lib.hid hs
              have HST : Hid (stepS p q = if beforeI (ints (mem p)) (ints (mem q)) = true then -1 else if beforeI (ints (mem q)) (ints (mem p)) = true then 1 else 0) := rfl
              clear hs hc3 hc4
              go_wp2
              go_region_with (go_at_call 51; first
                | (with_reducible refine (clp _ ?_).mono ?_; first | exact HX | exact HX.drew | exact HX.drew.drew | exact HX.drew.drew.drew | exact below_drewN HX _
                   clear clp; rintro e W6 ⟨x1, rfl, HOa, HBa6, HXa⟩; obtain ⟨e3, e4⟩ := HCC.out _ HXa)
                | (with_reducible refine (clq _ ?_).mono ?_; first | exact HXa | exact HXa.drew | exact HXa.drew.drew | exact below_drewN HXa _
                   rintro e W7 ⟨x2, rfl, HOb, HBb7, HXb⟩))
              all_goals
                have ra : Rd W7 W7.heap.size x1 (nums (ints (mem p))) := by
                  rw [← nats_ints]
                  first
                    | exact (HOa.below HBb7 (Nat.le_refl _)).rd
                    | exact (HOa.drew.below HBb7 (Nat.le_refl _)).rd
                    | exact (HOa.drew.drew.below HBb7 (Nat.le_refl _)).rd
                have rb : Rd W7 W7.heap.size x2 (nums (ints (mem q))) := by rw [← nats_ints]; exact HOb.rd
                have cb1 := sBefore_c x1 x2 _ _ _ W7 (Nat.le_refl _) ra rb
                have cb2 := fun z => sBefore_c x2 x1 _ _ _ (W7.drewN z) (Nat.le_refl _) (rd_drewN rb z) (rd_drewN ra z)
                generalize beforeI (ints (mem p)) (ints (mem q)) = b1 at cb1 HST
                generalize beforeI (ints (mem q)) (ints (mem p)) = b2 at cb2 HST
                have HST2 := HST
                have HZ := Lib.hid (HX.trans (Below.refl W5.heap.size wr))
                have HXB := Lib.hid HXb
                clear HX HXa HXb HOa HOb HBa6 HBb7 e3 e4 d3 d4 ra rb clq
                cases b1 with
                | true =>
                  go_wp2_with (go_at_call 52; refine cb1.mono ?_; rintro e w' ⟨rfl, z, rfl⟩)
                  go_ret
                  exact ⟨ret_i (by rw [E.out, HL.out, HS.out, HST.out]; simp), below_drewN (HBF.trans (HXB.out.mono HBF.size)) _⟩
                | false =>
                  cases b2 with
                  | true =>
                    go_wp2_with fail
                    refine cb1.mono ?_
                    rintro e w' ⟨rfl, z, rfl⟩
                    go_wp2_with fail
                    refine (cb2 _).mono ?_
                    rintro e w' ⟨rfl, z2, rfl⟩
                    go_wp2
                    go_ret
                    exact ⟨ret_i (by rw [E.out, HL.out, HS.out, HST.out]; simp), below_drewN (HBF.trans (HXB.out.mono HBF.size)) _⟩
                  | false =>
                    go_wp2_with fail
                    refine cb1.mono ?_
                    rintro e w' ⟨rfl, z, rfl⟩
                    go_wp2_with fail
                    refine (cb2 _).mono ?_
                    rintro e w' ⟨rfl, z2, rfl⟩
                    go_wp2
                    go_roundw
                    case rel => exact ⟨k + 1, by omega, by omega, by go_num, below_drewN HXB.out _, by rw [Hid, HL.out, HS.out, HST.out]; simp⟩
                    case measure => simp [intOf]; omega
            · have EE := Lib.hid (stepsS_end (xs := F) (ys := G) (k := k) (by omega))
              have hke : k = G.length := by omega
              subst hke
              go_wp2
              go_ret
              exact ⟨ret_i (by rw [E.out, HL.out, EE.out]; simp), HBF.trans (HX.mono HBF.size)⟩
          · have EE := Lib.hid (stepsS_end (xs := F) (ys := G) (k := k) (by omega))
            have hke : k = F.length := by omega
            subst hke
            go_wp2
            go_ret
            exact ⟨ret_i (by rw [E.out, HL.out, EE.out]; simp), HBF.trans (HX.mono HBF.size)⟩
    · have hcz : (c != 0) = true := by simp [hz]
      have HC := Lib.hid hc
      have HZ := Lib.hid hz
      clear hc hz HO1 HO2
      go_wp2_with (go_at_call 48; refine co.mono ?_; rintro e w' ⟨rfl, q, rfl⟩)
      go_ret
      exact ⟨ret_i (by rw [E.out, if_neg HZ.out]), below_drewN (B1.trans (HBb.mono B1.size)) _⟩
  · have hne : ((us.length : Int) != (vs.length : Int)) = true := by simp; omega
    by_cases hlt : us.length < vs.length
    · have E : Hid (cmpS ds us vs = -1) := by rw [Hid, cmpS, if_neg hlen, if_pos hlt]
      clear hlen hru hrv hv hd hu hvv q0 q1
      go_enter Tryz.func22, Tryz.ntmps22
      go_wp2
      go_ret
      exact ⟨ret_i E.out.symm, hb1⟩
    · have E : Hid (cmpS ds us vs = 1) := by rw [Hid, cmpS, if_neg hlen, if_neg hlt]
      clear hlen hru hrv hv hd hu hvv q0 q1
      go_enter Tryz.func22, Tryz.ntmps22
      go_wp2
      go_ret
      exact ⟨ret_i E.out.symm, hb1⟩
end Go.Proofs.YtopfcpnilblieaaGreatDoor
