/-
  A closed fact of the row of ChaseNil: whether its code calls itself. No condition.
-/
import Derived.Test.YtcbdnkbdpdppcaaGreatDoorRows
import Derived.ProofKit
namespace Go.Proofs.YtcbdnkbdpdppcaaGreatDoor
set_option maxRecDepth 100000
theorem chaseNil_k3 : (Rows.chaseNilRow.recurses == Tryz.prog.recurses 4) = true := by kernel_rfl
end Go.Proofs.YtcbdnkbdpdppcaaGreatDoor
