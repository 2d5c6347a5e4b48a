import Derived.Test.YtibhlleeghbnaaaDoorMembers
namespace Go.Proofs.YtibhlleeghbnaaaDoor
open Go.RowKit
set_option maxRecDepth 100000 in
theorem ones_c (n : Nat) (hn : n < 256) (w : World) : Calls Tryd.prog 105 #[.int .u64 n] w fun e w' => e = .returned (.int .i64 (mem n).length) ∧ w = w' := by
  go_enter Tryd.func105, Tryd.ntmps105
  go_wp2
  go_ret
  refine ⟨ret_i ?_, rfl⟩
  clear w
  revert n
  decide +kernel
end Go.Proofs.YtibhlleeghbnaaaDoor
