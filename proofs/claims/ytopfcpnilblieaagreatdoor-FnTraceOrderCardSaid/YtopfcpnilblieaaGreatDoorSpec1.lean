/- the reference's small functions, its alphabets and words -/
import Derived.Test.YtopfcpnilblieaaGreatDoorWord
namespace Go.Proofs.YtopfcpnilblieaaGreatDoor
open Go.RowKit

/-- A quiet call behind draws: the caller's draws are counted on. -/
theorem quietL {f : FuncId} {args : Array Value} {w : World} {a n : Nat} {v : Value} (h : Calls Tryz.prog f args (w.drewN (a + n)) fun e w' => e = .returned v ∧ w.drewN (a + n) = w') :
    Calls Tryz.prog f args (w.drewN (a + n)) fun e w'' => e = .returned v ∧ ∃ m, w'' = w.drewN (a + m) := h.mono fun _ _ ⟨he, hm⟩ => ⟨he, n, hm.symm⟩
theorem quietN {f : FuncId} {args : Array Value} {w : World} {n : Nat} {v : Value} (h : Calls Tryz.prog f args (w.drewN n) fun e w' => e = .returned v ∧ w.drewN n = w') :
    Calls Tryz.prog f args (w.drewN n) fun e w'' => e = .returned v ∧ ∃ m, w'' = w.drewN m := h.mono fun _ _ ⟨he, hm⟩ => ⟨he, n, hm.symm⟩

theorem sIn_c (n a b : Int) (w : World) : Calls Tryz.prog 44 #[.int .i64 n, .int .i64 a, .int .i64 b] w fun e w' => e = .returned (.bool (inR a b n)) ∧ w = w' := by
  go_enter Tryz.func44, Tryz.ntmps44
  go_wp2
  · have h : a ≤ n := by assumption
    go_ret
    exact ⟨ret_b (by simp [inR, h]), rfl⟩
  · have h : n < a := by assumption
    go_ret
    exact ⟨ret_b (by simp [inR]; omega), rfl⟩

theorem u64_nat (i : Nat) (hi : i < 64) : IntKind.u64.wrap (i : Int) = (i : Int) := by rw [IntKind.wrap_u64]; omega
theorem sBit_c (m i : Nat) (hm : m < 2 ^ 63) (hi : i < 64) (w : World) : Calls Tryz.prog 46 #[.int .i64 m, .int .i64 i] w fun e w' => e = .returned (.bool (m.testBit i)) ∧ w = w' := by
  have hu := u64_nat i hi
  have hh : (Go.bits .and .i64 ((m : Int) / 2 ^ i) 1 == 1) = m.testBit i := by simpa [Nat.min_eq_left (Nat.le_of_lt hi)] using has_nat m i hm
  go_enter Tryz.func46, Tryz.ntmps46
  go_wp2
  go_ret
  exact ⟨rfl, rfl⟩
theorem sOne_c (i : Nat) (hi : i < 63) (w : World) : Calls Tryz.prog 55 #[.int .i64 i] w fun e w' => e = .returned (.int .i64 (p2 i)) ∧ w = w' := by
  have hu := u64_nat i (by omega)
  go_enter Tryz.func55, Tryz.ntmps55
  go_wp2
  go_ret
  exact ⟨ret_i (wrap64_pow i hi), rfl⟩
theorem sFull_c (i : Nat) (hi : i ≤ 24) (w : World) : Calls Tryz.prog 72 #[.int .i64 i] w fun e w' => e = .returned (.int .i64 ((p2 i : Int) - 1)) ∧ w = w' := by
  have c := sOne_c i (by omega) w
  have hp1 := p2_pos i
  have hp2 : p2 i ≤ 16777216 := p2_le hi
  go_enter Tryz.func72, Tryz.ntmps72
  go_wp2_with (go_at_call 55; refine c.mono ?_; rintro e w' ⟨rfl, rfl⟩)
  go_ret
  exact ⟨rfl, rfl⟩

theorem all_true {p : Int → Bool} {xs : List Int} (h : ∀ j, (hj : j < xs.length) → p xs[j] = true) : xs.all p = true := by
  rw [List.all_eq_true]
  intro x hx
  obtain ⟨j, hj, rfl⟩ := List.mem_iff_getElem.1 hx
  exact h j hj
theorem all_false {p : Int → Bool} {xs : List Int} {j : Nat} (hj : j < xs.length) (h : p xs[j] = false) : xs.all p = false := by
  rw [List.all_eq_false]
  exact ⟨xs[j], List.getElem_mem hj, by rw [h]; simp⟩

theorem sMasks_c (n : Nat) (v : Value) (xs : List Int) (w : World) (hn : n ≤ 24) (hv : Rd w w.heap.size v (nums xs)) :
    Calls Tryz.prog 45 #[.int .i64 n, v] w fun e w' => e = .returned (.bool (xs.all (inR 0 ((p2 n : Int) - 1)))) ∧ Below w.heap.size w w' := by
  have cf := fun W => sFull_c n hn W
  obtain ⟨A, c, rfl, h1, h2, HC⟩ := hv.cells
  rw [nums_length] at h1 h2 ⊢
  clear hv
  have HT : Hid ((∀ j, (hj : j < xs.length) → inR 0 ((p2 n : Int) - 1) xs[j] = true) → xs.all (inR 0 ((p2 n : Int) - 1)) = true) := all_true
  have HF : Hid (∀ j, (hj : j < xs.length) → inR 0 ((p2 n : Int) - 1) xs[j] = false → xs.all (inR 0 ((p2 n : Int) - 1)) = false) := fun j hj h => all_false hj h
  go_enter Tryz.func45, Tryz.ntmps45
  go_wp2
  go_loopw [5] (fun s5 wr => ∃ k q : Nat, k ≤ xs.length ∧ s5 = .int .i64 k ∧ wr = w.drewN q ∧ Hid (∀ j, (hj : j < xs.length) → j < k → inR 0 ((p2 n : Int) - 1) xs[j] = true)) (fun s5 _ => xs.length - (intOf s5).toNat)
  case atStart => exact ⟨0, 0, Nat.zero_le _, rfl, rfl, fun j _ hj => absurd hj (Nat.not_lt_zero _)⟩
  case round =>
    obtain ⟨k, q, hk, rfl, rfl, HN⟩ := hrel
    by_cases hlt : k < xs.length
    · obtain ⟨b, o, rfl, _, _, hc⟩ := HC.at_ k _ (nums_get hlt)
      have ci := fun W => sIn_c xs[k] 0 ((p2 n : Int) - 1) W
      have HF1 := Lib.hid (HF.out k hlt)
      have HX : Hid (∀ b, inR 0 ((p2 n : Int) - 1) xs[k] = b → inR 0 ((p2 n : Int) - 1) xs[k] = b) := fun _ h => h
      generalize hb : inR 0 ((p2 n : Int) - 1) xs[k] = bb at ci
      have HB := Lib.hid hb
      clear hb
      generalize xs[k] = x at hc ci
      cases bb with
      | true =>
        go_wp2
        go_quiet ((first
          | (go_at_call 72; exact quietL (cf _))
          | (go_at_call 44; exact quietL (ci _))))
        go_wp2
        go_roundw
        case rel =>
          refine ⟨k + 1, _, by omega, by go_num, rfl, fun j hj hjk => ?_⟩
          by_cases e : j = k
          · subst e; exact HB.out
          · exact HN.out j hj (by omega)
        case measure => simp [intOf]; omega
      | false =>
        go_wp2
        go_quiet ((first
          | (go_at_call 72; exact quietL (cf _))
          | (go_at_call 44; exact quietL (ci _))))
        go_wp2
        go_ret
        exact ⟨ret_b (HF1.out HB.out).symm, below_drewN (below_drewN (Below.refl _ _) _) _⟩
    · have hke : k = xs.length := by omega
      subst hke
      go_wp2
      go_ret
      exact ⟨ret_b (HT.out fun j hj => HN.out j hj hj).symm, below_drewN (Below.refl _ _) _⟩
end Go.Proofs.YtopfcpnilblieaaGreatDoor
