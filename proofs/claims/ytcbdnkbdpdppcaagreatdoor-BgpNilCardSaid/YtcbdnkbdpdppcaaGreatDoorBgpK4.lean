/-
  A closed fact of the row of BgpNil: which variables its code names. No condition.
-/
import Derived.Test.YtcbdnkbdpdppcaaGreatDoorRows
import Derived.ProofKit
namespace Go.Proofs.YtcbdnkbdpdppcaaGreatDoor
set_option maxRecDepth 100000
theorem bgpNil_k4 : (Rows.bgpNilRow.named == Tryz.prog.varsNamed 3) = true := by kernel_rfl
end Go.Proofs.YtcbdnkbdpdppcaaGreatDoor
