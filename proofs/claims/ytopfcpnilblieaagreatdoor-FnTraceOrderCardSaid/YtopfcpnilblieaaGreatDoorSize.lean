import Derived.Test.YtopfcpnilblieaaGreatDoorMembers
namespace Go.Proofs.YtopfcpnilblieaaGreatDoor
open Go.RowKit
set_option maxRecDepth 100000 in
theorem ones_c (n : Nat) (hn : n < 256) (w : World) : Calls Tryz.prog 70 #[.int .u64 n] w fun e w' => e = .returned (.int .i64 (mem n).length) ∧ w = w' := by
  go_enter Tryz.func70, Tryz.ntmps70
  go_wp2
  go_ret
  refine ⟨ret_i ?_, rfl⟩
  clear w
  revert n
  decide +kernel
end Go.Proofs.YtopfcpnilblieaaGreatDoor
