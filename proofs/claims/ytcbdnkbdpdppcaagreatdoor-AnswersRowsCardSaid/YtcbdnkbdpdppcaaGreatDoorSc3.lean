/-
  That a call of known of the law package returns true in every world. No condition.
-/
import Derived.Test.YtcbdnkbdpdppcaaGreatDoorSc2
namespace Go.RA
open Go.RowKit
set_option maxRecDepth 100000
theorem top30 : aTop E1 3000 30 [] = some (.bool true) := by kernel_rfl
theorem run30 (w : World) : CallsIn Fence.wide 0 Go.Proofs.Tryz.prog 30 #[] w fun e w' => e = .returned (.bool true) ∧ Below w.heap.size w w' := (aTop_calls E1_ok top30 rfl rfl rfl w).2
end Go.RA
