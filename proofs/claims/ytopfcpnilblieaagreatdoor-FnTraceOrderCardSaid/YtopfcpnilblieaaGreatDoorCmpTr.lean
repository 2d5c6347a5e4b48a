/- (ties).compareTraces, CompareTraces -/
import Derived.Test.YtopfcpnilblieaaGreatDoorSorted
import Derived.Test.YtopfcpnilblieaaGreatDoorCmpF
import Derived.Test.YtopfcpnilblieaaGreatDoorFoata
import Derived.Test.YtopfcpnilblieaaGreatDoorWord
namespace Go.Proofs.YtopfcpnilblieaaGreatDoor
open Go.RowKit

def ints (xs : List Nat) : List Int := xs.map fun (n : Nat) => (n : Int)
theorem ints_length (xs : List Nat) : (ints xs).length = xs.length := by simp [ints]
theorem nats_ints (xs : List Nat) : nats xs = nums (ints xs) := nats_nums xs

/-- Steps that are given as numbers. -/
def cmpSt (p q : Int) : Int := cmpStep p.toNat q.toNat
/-- The order of traces, as the program computes it. -/
def cmpTr (ds us vs : List Nat) : Int :=
  if us.length = vs.length then
    (if lexBy cmpI (sortI (ints us)) (sortI (ints vs)) = 0 then lexBy cmpSt (ints (foataL ds us)) (ints (foataL ds vs)) else lexBy cmpI (sortI (ints us)) (sortI (ints vs)))
  else cmpI us.length vs.length

theorem foataL_lt {ds ws : List Nat} {K : Nat} (h : ∀ a ∈ ws, a < K) : ∀ s ∈ foataL ds ws, s < 2 ^ K := foata_lt ws [] h (by simp)

set_option maxHeartbeats 800000 in
theorem compareTraces_c (ds us vs : List Nat) (vt vu vv : Value) (w : World) (hT : Tab w) (hd : ∀ m ∈ ds, m < 2 ^ 63) (h8 : ds.length ≤ 8) (hu : ∀ a ∈ us, a < ds.length) (hv : ∀ a ∈ vs, a < ds.length) (hul : us.length ≤ 1000) (hvl : vs.length ≤ 1000)
    (ht : Rd w w.heap.size vt (nats ds)) (hru : Rd w w.heap.size vu (nats us)) (hrv : Rd w w.heap.size vv (nats vs)) :
    Calls Tryz.prog 19 #[vt, vu, vv] w fun e w' => e = .returned (.int .i64 (cmpTr ds us vs)) ∧ Below w.heap.size w w' := by
  obtain ⟨Au, cu, rfl, hu1, hu2, HCu⟩ := hru.cells
  obtain ⟨Av, cv, rfl, hv1, hv2, HCv⟩ := hrv.cells
  simp only [nats_length] at *
  by_cases hlen : us.length = vs.length
  · have hb : ((us.length : Int) != (vs.length : Int)) = false := by simp [hlen]
    have E : Hid (cmpTr ds us vs = if lexBy cmpI (sortI (ints us)) (sortI (ints vs)) = 0 then lexBy cmpSt (ints (foataL ds us)) (ints (foataL ds vs)) else lexBy cmpI (sortI (ints us)) (sortI (ints vs))) := if_pos hlen
    have HL := Lib.hid hlen
    clear hlen
    have fu := fun W (hW : Below w.heap.size w W) => foata_c ds us vt (.slice Au us.length cu) W hd (by omega) hu hul ((ht.below hW).mono hW.size) ((hru.below hW).mono hW.size)
    have fv := fun W (hW : Below w.heap.size w W) => foata_c ds vs vt (.slice Av vs.length cv) W hd (by omega) hv hvl ((ht.below hW).mono hW.size) ((hrv.below hW).mono hW.size)
    have su := Sorted_c w.heap.size cu Au (ints us) (by rw [ints_length]; omega) (w.alloc (.cells #[.slice Au us.length cu] 24)) (by simp) (by rw [ints_length]; simp [go_sem]) (by rw [← nats_ints]; exact (HCu.below ((Below.refl _ w).alloc (Nat.le_refl _) _)).mono (Nat.le_refl _) (by simp))
    have sv := fun W (hW : Below w.heap.size w W) => Sorted_c W.heap.size cv Av (ints vs) (by rw [ints_length]; omega) (W.alloc (.cells #[.slice Av vs.length cv] 24)) (by simp) (by rw [ints_length]; simp [go_sem]) (by rw [← nats_ints]; exact (HCv.below (hW.alloc hW.size _)).mono (Nat.le_refl _) (by have := hW.size; simp; omega))
    have hf8u := foataL_lt (ds := ds) (fun a ha => Nat.lt_of_lt_of_le (hu a ha) h8)
    have hf8v := foataL_lt (ds := ds) (fun a ha => Nat.lt_of_lt_of_le (hv a ha) h8)
    have HU := Lib.hid hf8u
    have HV := Lib.hid hf8v
    have HT := Lib.hid hT
    clear HCu HCv hru hrv ht hd hu hv hf8u hf8v hT
    go_enter Tryz.func19, Tryz.ntmps19
    go_wp2_with fail
    refine (Values_c _ _ _ _).mono ?_
    rintro e w' ⟨rfl, rfl⟩
    go_wp2_with fail
    refine su.mono ?_
    rintro e W1 ⟨v1, rfl, HO1, HB1⟩
    have B1 : Below w.heap.size w W1 := ((Below.refl _ w).alloc (Nat.le_refl _) _).trans (HB1.mono (by simp))
    go_wp2_with fail
    refine (Values_c _ _ _ _).mono ?_
    rintro e w' ⟨rfl, rfl⟩
    go_wp2_with fail
    refine (sv W1 B1).mono ?_
    rintro e W2 ⟨v2, rfl, HO2, HB2⟩
    have hW12 : Below W1.heap.size W1 W2 := ((Below.refl _ W1).alloc (Nat.le_refl _) _).trans (HB2.mono (by simp))
    have B2 : Below w.heap.size w W2 := B1.trans (hW12.mono B1.size)
    have cc := SlCompare_c v1 v2 _ _ _ W2 (HO1.below hW12 (Nat.le_refl _)).rd HO2.rd
    generalize hc : lexBy cmpI (sortI (ints us)) (sortI (ints vs)) = c at cc E
    by_cases hz : c = 0
    · subst hz
      have HC := Lib.hid hc
      clear hc
      go_wp2_with (go_at_call 34; refine cc.mono ?_; rintro e w' ⟨rfl, rfl⟩)
      refine (fu W2 B2).mono ?_
      rintro e W3 ⟨v3, rfl, HO3, HB3⟩
      have B3 : Below w.heap.size w W3 := B2.trans (HB3.mono B2.size)
      go_wp2_with fail
      refine (fv W3 B3).mono ?_
      rintro e W4 ⟨v4, rfl, HO4, HB4⟩
      have B4 : Below w.heap.size w W4 := B3.trans (HB4.mono B3.size)
      have r3 := (HO3.below HB4 (Nat.le_refl _)).rd
      have r4 := HO4.rd
      rw [nats_ints] at r3 r4
      have cf := CompareFunc_c 39 #[] (enters_of Tryz.func39 (by kernel_rfl) rfl) cmpSt v3 v4 _ _ W4 r3 r4 (fun W x y hW hx hy => by
        obtain ⟨p, hp, rfl⟩ := List.mem_map.1 hx
        obtain ⟨q, hq, rfl⟩ := List.mem_map.1 hy
        exact cmpStep_c p q (HU.out p hp) (HV.out q hq) W (HT.out.below (B4.trans (hW.mono B4.size))))
      go_wp2_with (go_at_call 37; refine cf.mono ?_; rintro e w' ⟨rfl, hb⟩)
      go_ret
      exact ⟨ret_i (by rw [E.out]; simp), B4.trans (hb.mono B4.size)⟩
    · have hcz : (c != 0) = true := by simp [hz]
      have HC := Lib.hid hc
      have HZ := Lib.hid hz
      clear hc hz
      go_wp2_with (go_at_call 34; refine cc.mono ?_; rintro e w' ⟨rfl, rfl⟩)
      go_ret
      exact ⟨ret_i (by rw [E.out, if_neg HZ.out]), B2⟩
  · have hb : ((us.length : Int) != (vs.length : Int)) = true := by simp; omega
    have E : Hid (cmpTr ds us vs = cmpI us.length vs.length) := if_neg hlen
    have cc := CompareInt_c us.length vs.length w
    clear hlen HCu HCv hru hrv ht
    go_enter Tryz.func19, Tryz.ntmps19
    go_wp2_with (go_at_call 33; refine cc.mono ?_; rintro e w' ⟨rfl, rfl⟩)
    go_ret
    exact ⟨ret_i E.out.symm, Below.refl _ _⟩
end Go.Proofs.YtopfcpnilblieaaGreatDoor
