/-
  That a call of the function of BgpNil returns true in every world. No condition.
-/
import Derived.Test.YtcbdnkbdpdppcaaGreatDoorKe
namespace Go.RA
open Go.RowKit
set_option maxRecDepth 100000
theorem top3 : aTop E1 3000 3 [] = some (.bool true) := by kernel_rfl
theorem run3 (w : World) : CallsIn Fence.wide 0 Go.Proofs.Tryz.prog 3 #[] w fun e w' => e = .returned (.bool true) ∧ Below w.heap.size w w' := (aTop_calls E1_ok top3 rfl rfl rfl w).2
end Go.RA
