/- impl.CompareTraces -/
import Derived.Test.YtopfcpnilblieaaGreatDoorCmpTr
namespace Go.Proofs.YtopfcpnilblieaaGreatDoor
open Go.RowKit

/-- Numbers that are not negative, as natural numbers. -/
def toN (xs : List Int) : List Nat := xs.map Int.toNat
theorem toN_length (xs : List Int) : (toN xs).length = xs.length := by simp [toN]
theorem nums_toN {xs : List Int} (h : ∀ x ∈ xs, 0 ≤ x) : nums xs = nats (toN xs) := nums_toNat h

/-- What is known of an alphabet. -/
structure Alpha (n : Int) (ds : List Int) : Prop where
  len : (ds.length : Int) = n
  le : ds.length ≤ 8
  pos : ∀ x ∈ ds, 0 ≤ x
  lt : ∀ m ∈ toN ds, m < 2 ^ ds.length
  ok : alphaB (toN ds) = true
theorem isAlpha_iff {n : Int} {ds : List Int} : isAlpha n ds = true ↔ Alpha n ds := by
  constructor
  · intro h
    simp only [isAlpha, Bool.and_eq_true, decide_eq_true_eq, isRel, List.all_eq_true] at h
    obtain ⟨h1, h2, ⟨h3, h4⟩, h5⟩ := h
    have h0 := inR_iff.1 h1
    refine ⟨h2, by omega, fun x hx => (inR_iff.1 (h4 x hx)).1, ?_, h5⟩
    intro m hm
    obtain ⟨x, hx, rfl⟩ := List.mem_map.1 hm
    have h6 := inR_iff.1 (h4 x hx)
    have h7 := p2_pos ds.length
    show x.toNat < p2 ds.length
    omega
  · intro ⟨h1, h2, h3, h4, h5⟩
    simp only [isAlpha, Bool.and_eq_true, decide_eq_true_eq, isRel, List.all_eq_true]
    refine ⟨inR_iff.2 ⟨by omega, by omega⟩, h1, ⟨by omega, fun x hx => inR_iff.2 ⟨h3 x hx, ?_⟩⟩, h5⟩
    have h6 : x.toNat < p2 ds.length := h4 _ (List.mem_map.2 ⟨x, hx, rfl⟩)
    have := h3 x hx
    omega
theorem isWord_iff {n : Int} {ws : List Int} : isWordB n ws = true ↔ ws.length ≤ 24 ∧ ∀ x ∈ ws, 0 ≤ x ∧ x < n := by
  simp only [isWordB, Bool.and_eq_true, decide_eq_true_eq, List.all_eq_true]
  constructor
  · intro ⟨h1, h2⟩
    exact ⟨h1, fun x hx => by have := inR_iff.1 (h2 x hx); omega⟩
  · intro ⟨h1, h2⟩
    exact ⟨h1, fun x hx => by have := h2 x hx; exact inR_iff.2 (by omega)⟩

/-- What a word of an alphabet is, as natural numbers. -/
theorem word_toN {n : Int} {ds ws : List Int} (ha : Alpha n ds) (h : isWordB n ws = true) : nums ws = nats (toN ws) ∧ (∀ a ∈ toN ws, a < (toN ds).length) ∧ (toN ws).length ≤ 24 := by
  obtain ⟨h1, h2⟩ := isWord_iff.1 h
  refine ⟨nums_toN fun x hx => (h2 x hx).1, ?_, by rw [toN_length]; exact h1⟩
  intro a hm
  obtain ⟨x, hx, rfl⟩ := List.mem_map.1 hm
  have h3 := h2 x hx
  have h4 := ha.len
  rw [toN_length]
  omega

def cmpRes (n : Int) (ds us vs : List Int) : Int := if checkB n ds [us, vs] = 0 then cmpTr (toN ds) (toN us) (toN vs) else 0

theorem checkB_zero {n : Int} {ds : List Int} {xss : List (List Int)} : checkB n ds xss = 0 ↔ isAlpha n ds = true ∧ ∀ ws ∈ xss, isWordB n ws = true := by
  unfold checkB
  by_cases h : isAlpha n ds = true
  · rw [if_pos h]
    by_cases h2 : xss.all (isWordB n) = true
    · rw [if_pos h2]; exact ⟨fun _ => ⟨h, List.all_eq_true.1 h2⟩, fun _ => rfl⟩
    · rw [if_neg h2]; exact ⟨fun e => by omega, fun ⟨_, e⟩ => absurd (List.all_eq_true.2 e) h2⟩
  · rw [if_neg h]; exact ⟨fun e => by omega, fun ⟨e, _⟩ => absurd e h⟩

/-- Two slices that lie in a row of two. -/
theorem rds_two {w : World} {B b : Nat} {v1 v2 : Value} {xs ys : List Int} (hb : b < B) (h0 : w.cell? ⟨b, 0, none⟩ = some v1) (h1 : w.cell? ⟨b, 1, none⟩ = some v2) (r1 : Rd w B v1 (nums xs)) (r2 : Rd w B v2 (nums ys)) :
    RdS w B (.slice (some ⟨b, 0, none⟩) 2 2) [xs, ys] := by
  refine ⟨⟨[v1, v2], ⟨_, 2, rfl, by simp, by simp, fun _ => ⟨b, 0, rfl, hb, fun j u hj => ?_⟩⟩, rfl, fun j u zs hu hz => ?_⟩⟩
  · match j, hj with
    | 0, hj => simp at hj; subst hj; exact h0
    | 1, hj => simp at hj; subst hj; exact h1
    | j + 2, hj => simp at hj
  · match j, hu, hz with
    | 0, hu, hz => simp at hu hz; subst hu; subst hz; exact r1
    | 1, hu, hz => simp at hu hz; subst hu; subst hz; exact r2
    | j + 2, hu, _ => simp at hu

theorem ties_c (n : Int) (v : Value) (w : World) : Calls Tryz.prog 18 #[.agg #[.int .i64 n, v]] w fun e w' => e = .returned v ∧ Below w.heap.size w w' := by
  go_enter Tryz.func18, Tryz.ntmps18
  go_wp2
  go_ret
  exact ⟨rfl, (Below.refl _ w).alloc (Nat.le_refl _) _⟩

set_option maxHeartbeats 800000 in
theorem CompareTraces_c (n : Int) (vx vu vv : Value) (ds us vs : List Int) (w : World) (hT : Tab w) (hx : Rd w w.heap.size vx (nums ds)) (hru : Rd w w.heap.size vu (nums us)) (hrv : Rd w w.heap.size vv (nums vs)) :
    Calls Tryz.prog 6 #[.agg #[.int .i64 n, vx], vu, vv] w fun e w' => e = .returned (.tuple #[.int .i64 (cmpRes n ds us vs), .int .i64 (checkB n ds [us, vs])]) ∧ Below w.heap.size w w' := by
  obtain ⟨Au, cu, rfl, hu1, hu2, HCu⟩ := hru.cells
  obtain ⟨Av, cv, rfl, hv1, hv2, HCv⟩ := hrv.cells
  simp only [nums_length] at *
  clear HCu HCv
  have hB1 : Below w.heap.size w ((w.alloc (.cells #[.int .i64 n, vx] 26)).alloc (.cells #[.slice Au us.length cu, .slice Av vs.length cv] 24)) := ((Below.refl _ w).alloc (Nat.le_refl _) _).alloc (by simp) _
  have cw := checkWords_c n vx (.slice (some ⟨w.heap.size + 1, 0, none⟩) 2 2) ds [us, vs] _ (hT.below hB1) ((hx.below hB1).mono hB1.size) (rds_two (b := w.heap.size + 1) (by simp) (by simp [go_sem]) (by simp [go_sem]) ((hru.below hB1).mono hB1.size) ((hrv.below hB1).mono hB1.size))
  generalize hc : checkB n ds [us, vs] = code at cw
  by_cases hz : code = 0
  · subst hz
    obtain ⟨ha, hw⟩ := checkB_zero.1 hc
    have hA := isAlpha_iff.1 ha
    obtain ⟨u1, u2, u3⟩ := word_toN hA (hw us (by simp))
    obtain ⟨v1, v2, v3⟩ := word_toN hA (hw vs (by simp))
    have E : Hid (cmpRes n ds us vs = cmpTr (toN ds) (toN us) (toN vs)) := if_pos hc
    rw [u1] at hru
    rw [v1] at hrv
    rw [nums_toN hA.pos] at hx
    have ct := fun W (hW : Below w.heap.size w W) => compareTraces_c (toN ds) (toN us) (toN vs) vx (.slice Au us.length cu) (.slice Av vs.length cv) W (hT.below hW) (fun m hm => Nat.lt_of_lt_of_le (hA.lt m hm) (Nat.pow_le_pow_right (by decide) (by have := hA.le; omega))) (by rw [toN_length]; exact hA.le) u2 v2 (by omega) (by omega) ((hx.below hW).mono hW.size) ((hru.below hW).mono hW.size) ((hrv.below hW).mono hW.size)
    clear hc ha hw hA u1 v1 u2 v2 u3 v3 hT hx hru hrv
    have q0 : ((w.alloc (.cells #[.int .i64 n, vx] 26)).alloc (.cells #[.slice Au us.length cu, .slice Av vs.length cv] 24)).cell? ⟨w.heap.size, 0, none⟩ = some (.int .i64 n) := by simp [go_sem]
    have q1 : ((w.alloc (.cells #[.int .i64 n, vx] 26)).alloc (.cells #[.slice Au us.length cu, .slice Av vs.length cv] 24)).cell? ⟨w.heap.size, 1, none⟩ = some vx := by simp [go_sem]
    have HB := Lib.hid hB1
    clear hB1
    go_enter Tryz.func6, Tryz.ntmps6
    go_wp2_with (first
      | (go_at_call 17; refine cw.mono ?_; rintro e w' ⟨rfl, hb⟩; have k0 := (hb.cell (p := ⟨w.heap.size, 0, none⟩) (by simp; omega)).trans q0; have k1 := (hb.cell (p := ⟨w.heap.size, 1, none⟩) (by simp; omega)).trans q1))
    have B1 := HB.out.trans (hb.mono HB.out.size)
    refine (ties_c n vx _).mono ?_
    rintro e W1 ⟨rfl, hb1⟩
    have B2 := B1.trans (hb1.mono B1.size)
    go_wp2_with fail
    refine (ct W1 B2).mono ?_
    rintro e W2 ⟨rfl, hb2⟩
    go_wp2
    go_ret2
    exact ⟨ret_ii E.out.symm rfl, B2.trans (hb2.mono B2.size)⟩
  · have hcz : (code != 0) = true := by simp [hz]
    have E : Hid (cmpRes n ds us vs = 0) := if_neg (by rw [hc]; exact hz)
    have HB := Lib.hid hB1
    clear hz hx hru hrv hT hc
    go_enter Tryz.func6, Tryz.ntmps6
    go_wp2_with (go_at_call 17; refine cw.mono ?_; rintro e w' ⟨rfl, hb⟩)
    go_ret2
    exact ⟨ret_ii E.out.symm rfl, HB.out.trans (hb.mono HB.out.size)⟩
end Go.Proofs.YtopfcpnilblieaaGreatDoor
