import Derived.Test.YtopfcpnilblieaaGreatDoorMem
namespace Go.Proofs.YtopfcpnilblieaaGreatDoor
open Go.RowKit

theorem members_c (m : Nat) (hm : m < 2 ^ 63) (w : World) (hT : Tab w) : Calls Tryz.prog 43 #[.int .i64 m] w (OutRow 2 (nats (mem m)) w) := by
  go_enter Tryz.func43, Tryz.ntmps43
  go_wp2
  go_loopw [0, 3] (fun s0 s3 wr => ∃ (r : Nat) (ds : List Nat), r < 2 ^ 63 ∧ Hid (mem m = ds ++ mem r) ∧ s0 = .int .i64 r ∧ Own wr w.heap.size 2 s3 (nats ds) ∧ Below w.heap.size w wr) (fun s0 _ _ => (intOf s0).toNat)
  case atStart => exact ⟨m, [], hm, Lib.hid rfl, rfl, World.ownsRow_lit w #[] 0 (Nat.le_refl _) (by decide) rfl, (Below.refl _ w).alloc (Nat.le_refl _) _⟩
  case round =>
    obtain ⟨r, ds, hr, He, rfl, HO, HB⟩ := hrel
    by_cases h0 : r = 0
    · have hz : ((r : Int) != 0) = false := by simp [h0]
      have Hz := Lib.hid h0
      clear h0
      go_wp2
      go_ret
      have e : mem m = ds := by rw [He.out, Hz.out, mem_zero, List.append_nil]
      rw [e]
      exact ⟨_, rfl, HO, HB⟩
    · have hz : ((r : Int) != 0) = true := by simp [h0]
      have hp : 0 < r := by omega
      have c := least_c r hr hp wr (hT.below HB)
      have hl : Room (nats ds).length := by
        have := mem_length_le m
        rw [He.out, List.length_append] at this
        rw [nats_length]; exact room (by omega)
      go_wp2_with (first
        | (go_at_call 71; refine c.mono ?_; rintro e w' ⟨rfl, rfl⟩)
        | (at_builtin; refine app_int HO HB HB.size hl 24 Tryz.underlying24 rfl _ _ rfl _ rfl rfl ?_; intro v1 w1 HO1 HB1 _ _))
      have e1 : Go.bits BinOp.and IntKind.i64 (r : Int) ((r : Int) - 1) = ((r &&& (r - 1) : Nat) : Int) := by
        rw [show ((r : Int) - 1) = ((r - 1 : Nat) : Int) by omega, and_nat r (r - 1) hr (by omega)]
      refine ⟨⟨r &&& (r - 1), ds ++ [low r], strip_lt hr, ?_, by rw [e1], by rw [nats_append]; exact HO1, HB1⟩, ?_⟩
      · rw [Hid, He.out, mem_step hp hr, List.append_assoc]; rfl
      · rw [e1]
        have := strip_less hp
        simp only [intOf]
        omega
end Go.Proofs.YtopfcpnilblieaaGreatDoor
