/-
  A closed fact of the row of BgpNil: whether its code calls itself. No condition.
-/
import Derived.Test.YtcbdnkbdpdppcaaGreatDoorRows
import Derived.ProofKit
namespace Go.Proofs.YtcbdnkbdpdppcaaGreatDoor
set_option maxRecDepth 100000
theorem bgpNil_k3 : (Rows.bgpNilRow.recurses == Tryz.prog.recurses 3) = true := by kernel_rfl
end Go.Proofs.YtcbdnkbdpdppcaaGreatDoor
