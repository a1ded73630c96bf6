/-
  That a call of the function of ChaseNil returns true in every world. No condition.
-/
import Derived.Test.YtcbdnkbdpdppcaaGreatDoorKe
namespace Go.RA
open Go.RowKit
set_option maxRecDepth 100000
theorem top4 : aTop E1 3000 4 [] = some (.bool true) := by kernel_rfl
theorem run4 (w : World) : CallsIn Fence.wide 0 Go.Proofs.Tryz.prog 4 #[] w fun e w' => e = .returned (.bool true) ∧ Below w.heap.size w w' := (aTop_calls E1_ok top4 rfl rfl rfl w).2
end Go.RA
