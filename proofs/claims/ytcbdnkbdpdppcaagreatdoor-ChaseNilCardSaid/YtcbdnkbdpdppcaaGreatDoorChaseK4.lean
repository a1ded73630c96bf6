/-
  A closed fact of the row of ChaseNil: which variables its code names. No condition.
-/
import Derived.Test.YtcbdnkbdpdppcaaGreatDoorRows
import Derived.ProofKit
namespace Go.Proofs.YtcbdnkbdpdppcaaGreatDoor
set_option maxRecDepth 100000
theorem chaseNil_k4 : (Rows.chaseNilRow.named == Tryz.prog.varsNamed 4) = true := by kernel_rfl
end Go.Proofs.YtcbdnkbdpdppcaaGreatDoor
