import Derived.WalkKit
import Derived.Laws.BitsLemmas
import Derived.Lib.TrailingZeros
namespace Go.Proofs.YtopfcpnilblieaaGreatDoor
open Go.RowKit

/-! ### Masks: bit operations on numbers below 2^63, as natural numbers -/
theorem wraps_i64 (n : Int) (h₀ : 0 ≤ n) (h₁ : n < 2 ^ 63) : IntKind.i64.wrap n = n := by rw [IntKind.wrap_i64]; omega
theorem and_nat (a b : Nat) (ha : a < 2 ^ 63) (hb : b < 2 ^ 63) : Go.bits .and .i64 (a : Int) (b : Int) = ((a &&& b : Nat) : Int) := (bits_nat .i64 63 (by decide) wraps_i64 a b ha hb).1
theorem or_nat (a b : Nat) (ha : a < 2 ^ 63) (hb : b < 2 ^ 63) : Go.bits .or .i64 (a : Int) (b : Int) = ((a ||| b : Nat) : Int) := (bits_nat .i64 63 (by decide) wraps_i64 a b ha hb).2

/-- What is left of a mask without the members of another one. -/
def less (a b : Nat) : Nat := a ^^^ (a &&& b)
theorem less_bit (a b i : Nat) : (less a b).testBit i = (a.testBit i && !b.testBit i) := by
  unfold less
  rw [Nat.testBit_xor, Nat.testBit_and]
  cases a.testBit i <;> cases b.testBit i <;> rfl
theorem less_lt {a b k : Nat} (ha : a < 2 ^ k) : less a b < 2 ^ k := Nat.xor_lt_two_pow ha (Nat.lt_of_le_of_lt Nat.and_le_left ha)

theorem andNot_nat (a b : Nat) (ha : a < 2 ^ 63) (hb : b < 2 ^ 63) : Go.bits .andNot .i64 (a : Int) (b : Int) = ((less a b : Nat) : Int) := by
  have ha' : a % 2 ^ 64 = a := Nat.mod_eq_of_lt (by omega)
  have hb' : b % 2 ^ 64 = b := Nat.mod_eq_of_lt (by omega)
  have hl := less_lt (b := b) ha
  have key : ((BitVec.ofInt 64 (a : Int)) &&& ~~~ (BitVec.ofInt 64 (b : Int))).toNat = less a b := by
    apply Nat.eq_of_testBit_eq
    intro i
    rw [BitVec.testBit_toNat, BitVec.getLsbD_and, BitVec.getLsbD_not, less_bit, BitVec.ofInt_natCast, BitVec.ofInt_natCast, BitVec.getLsbD_ofNat, BitVec.getLsbD_ofNat]
    by_cases hi : i < 64
    · simp [hi]
    · have : a.testBit i = false := Nat.testBit_lt_two_pow (Nat.lt_of_lt_of_le ha (Nat.pow_le_pow_right (by decide) (by omega)))
      simp [hi, this]
  show IntKind.i64.wrap (((BitVec.ofInt 64 (a : Int)) &&& ~~~ (BitVec.ofInt 64 (b : Int))).toNat : Int) = _
  rw [key]
  exact wraps_i64 _ (Int.natCast_nonneg _) (by exact_mod_cast hl)

theorem shr_nat (m i : Nat) : ((m : Int) / 2 ^ min i 64) = ((m / 2 ^ min i 64 : Nat) : Int) := by simp
theorem has_nat (m i : Nat) (hm : m < 2 ^ 63) : (Go.bits .and .i64 ((m : Int) / 2 ^ min i 64) 1 == 1) = m.testBit i := by
  have h0 : m / 2 ^ min i 64 < 2 ^ 63 := Nat.lt_of_le_of_lt (Nat.div_le_self _ _) hm
  have h1 := and_nat (m / 2 ^ min i 64) 1 h0 (by decide)
  rw [shr_nat]
  have e : (1 : Int) = ((1 : Nat) : Int) := rfl
  rw [e, h1, Nat.and_one_is_mod]
  by_cases hi : i ≤ 64
  · rw [Nat.min_eq_left hi, Nat.testBit_eq_decide_div_mod_eq]
    by_cases h : m / 2 ^ i % 2 = 1
    · simp [h]
    · have : m / 2 ^ i % 2 = 0 := by omega
      simp [this]
  · have h2 : m / 2 ^ min i 64 = 0 := by
      rw [Nat.min_eq_right (by omega)]
      exact Nat.div_eq_of_lt (by omega)
    have h3 : m.testBit i = false := Nat.testBit_lt_two_pow (Nat.lt_of_lt_of_le hm (Nat.pow_le_pow_right (by decide) (by omega)))
    rw [h2, h3]; rfl

theorem wrap64_pow (i : Nat) (hi : i < 63) : wrap64 ((2 : Int) ^ i) = ((2 ^ i : Nat) : Int) := by
  have h : (2 ^ i : Nat) < 2 ^ 63 := Nat.pow_lt_pow_right (by decide) hi
  have e : ((2 : Int) ^ i) = ((2 ^ i : Nat) : Int) := by simp
  rw [e]
  generalize 2 ^ i = p at h
  unfold wrap64
  omega

theorem pow_lt63 {i : Nat} (hi : i < 63) : 2 ^ i < 2 ^ 63 := Nat.pow_lt_pow_right (by decide) hi

/-- A power of two, under a name that the walk doesn't take apart. -/
def p2 (i : Nat) : Nat := 2 ^ i
theorem p2_lt63 {i : Nat} (hi : i < 63) : p2 i < 2 ^ 63 := pow_lt63 hi
theorem p2_pos (i : Nat) : 1 ≤ p2 i := Nat.two_pow_pos i
theorem p2_le {i k : Nat} (h : i ≤ k) : p2 i ≤ p2 k := Nat.pow_le_pow_right (by decide) h
theorem or_pow (a i : Nat) (ha : a < 2 ^ 63) (hi : i < 63) : Go.bits .or .i64 (a : Int) (p2 i : Int) = ((a ||| 2 ^ i : Nat) : Int) := or_nat a _ ha (pow_lt63 hi)
theorem or_lt63 {a b : Nat} (ha : a < 2 ^ 63) (hb : b < 2 ^ 63) : a ||| b < 2 ^ 63 := Nat.or_lt_two_pow ha hb

/-! ### The members of a set -/
/-- The members of a mask in ascending order. -/
def mem (m : Nat) : List Nat := (List.range 63).filter fun i => m.testBit i
theorem mem_iff {m i : Nat} (hm : m < 2 ^ 63) : i ∈ mem m ↔ m.testBit i = true := by
  unfold mem
  rw [List.mem_filter, List.mem_range]
  refine ⟨fun h => h.2, fun h => ⟨?_, h⟩⟩
  apply Nat.lt_of_not_le
  intro hle
  have : m.testBit i = false := Nat.testBit_lt_two_pow (Nat.lt_of_lt_of_le hm (Nat.pow_le_pow_right (by decide) hle))
  rw [this] at h
  cases h

theorem filter_first {n k : Nat} {p : Nat → Bool} (hk : k < n) (hp : p k = true) (hlt : ∀ i, i < k → p i = false) :
    (List.range n).filter p = k :: (List.range n).filter (fun i => p i && i != k) := by
  obtain ⟨d, rfl⟩ : ∃ d, n = k + (1 + d) := ⟨n - k - 1, by omega⟩
  rw [List.range_add, List.range_add, List.map_append, List.filter_append, List.filter_append, List.filter_append, List.filter_append]
  have e1 : (List.range k).filter p = [] := by
    rw [List.filter_eq_nil_iff]
    intro i hi
    rw [hlt i (List.mem_range.1 hi)]; simp
  have e2 : (List.range k).filter (fun i => p i && i != k) = [] := by
    rw [List.filter_eq_nil_iff]
    intro i hi
    rw [hlt i (List.mem_range.1 hi)]; simp
  have e3 : ((List.range 1).map (fun x => k + x)).filter p = [k] := by simp [hp]
  have e4 : ((List.range 1).map (fun x => k + x)).filter (fun i => p i && i != k) = [] := by simp
  rw [e1, e2, e3, e4]
  simp only [List.nil_append, List.singleton_append]
  congr 1
  apply List.filter_congr
  intro i hi
  obtain ⟨j, hj, rfl⟩ := List.mem_map.1 hi
  obtain ⟨l, _, rfl⟩ := List.mem_map.1 hj
  have : (k + (1 + l) != k) = true := by simp
  rw [this, Bool.and_true]

/-- The least member of a mask that is not empty. -/
def low (m : Nat) : Nat := Lib.ctz 64 m
theorem low_form {r : Nat} (h0 : 0 < r) (h : r < 2 ^ 63) : ∃ m, r = 2 ^ low r * (2 * m + 1) ∧ low r < 63 := by
  have e : low r = Lib.ctzFrom 64 r := by unfold low Lib.ctz; rw [if_neg (by omega)]
  obtain ⟨m, hm, _⟩ := Lib.ctzFrom_spec 64 r h0 (by omega)
  rw [← e] at hm
  refine ⟨m, hm, ?_⟩
  apply Nat.lt_of_not_le
  intro hle
  have h1 : 2 ^ 63 ≤ 2 ^ low r := Nat.pow_le_pow_right (by decide) hle
  have h2 : 2 ^ low r ≤ 2 ^ low r * (2 * m + 1) := Nat.le_mul_of_pos_right _ (by omega)
  omega
theorem low_bits {r : Nat} (h0 : 0 < r) (h : r < 2 ^ 63) : r.testBit (low r) = true ∧ (∀ i, i < low r → r.testBit i = false) ∧ ∀ i, (r &&& (r - 1)).testBit i = (r.testBit i && i != low r) := by
  obtain ⟨m, hm, _⟩ := low_form h0 h
  generalize low r = k at hm
  subst hm
  have hp := Nat.two_pow_pos k
  have b1 : ∀ i, (2 ^ k * (2 * m + 1)).testBit i = (decide (k ≤ i) && (2 * m + 1).testBit (i - k)) := fun i => by rw [Nat.mul_comm, Nat.testBit_mul_two_pow]
  have e : 2 ^ k * (2 * m + 1) - 1 = 2 ^ k * (2 * m) + (2 ^ k - 1) := by
    rw [Nat.mul_add, Nat.mul_one]; omega
  have b2 : ∀ i, (2 ^ k * (2 * m) + (2 ^ k - 1)).testBit i = if i < k then (2 ^ k - 1).testBit i else (2 * m).testBit (i - k) := fun i => Nat.testBit_two_pow_mul_add _ (by omega) i
  refine ⟨?_, ?_, ?_⟩
  · rw [b1]; simp [Nat.testBit_zero]
  · intro i hi
    rw [b1]
    have : ¬ k ≤ i := by omega
    simp [this]
  · intro i
    rw [Nat.testBit_and, e, b2, b1]
    by_cases hik : i < k
    · have : ¬ k ≤ i := by omega
      simp [this]
    · have hk : k ≤ i := by omega
      rw [if_neg hik]
      by_cases he : i = k
      · subst he; simp [Nat.testBit_zero]
      · obtain ⟨j, rfl⟩ : ∃ j, i = k + (j + 1) := ⟨i - k - 1, by omega⟩
        have e3 : k + (j + 1) - k = j + 1 := by omega
        rw [e3, Nat.testBit_succ, Nat.testBit_succ]
        have d1 : (2 * m + 1) / 2 = m := by omega
        have d2 : (2 * m) / 2 = m := by omega
        rw [d1, d2]
        simp

theorem mem_zero : mem 0 = [] := by
  unfold mem
  rw [List.filter_eq_nil_iff]
  intro i _
  simp
theorem mem_step {r : Nat} (h0 : 0 < r) (h : r < 2 ^ 63) : mem r = low r :: mem (r &&& (r - 1)) := by
  obtain ⟨h1, h2, h3⟩ := low_bits h0 h
  obtain ⟨_, _, hk⟩ := low_form h0 h
  unfold mem
  rw [filter_first hk h1 h2]
  congr 2
  funext i
  rw [h3]
theorem strip_lt {r k : Nat} (h : r < k) : (r &&& (r - 1)) < k := Nat.lt_of_le_of_lt Nat.and_le_left h
theorem strip_less {r : Nat} (h0 : 0 < r) : (r &&& (r - 1)) < r := Nat.lt_of_le_of_lt Nat.and_le_right (by omega)
theorem mem_length_le (m : Nat) : (mem m).length ≤ 63 := by
  have := List.length_filter_le (fun i => m.testBit i) (List.range 63)
  simpa [mem] using this
end Go.Proofs.YtopfcpnilblieaaGreatDoor
