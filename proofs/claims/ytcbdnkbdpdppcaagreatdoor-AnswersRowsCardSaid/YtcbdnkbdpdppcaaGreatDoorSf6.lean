/-
  A closed fact of the row of the law: the number of its function. No condition.
-/
import Derived.Test.YtcbdnkbdpdppcaaGreatDoorRows
import Derived.ProofKit
namespace Go.Proofs.YtcbdnkbdpdppcaaGreatDoor
set_option maxRecDepth 100000
theorem answersRows_k5 : Tryz.prog.funcNamed "rhizome/rhizomelaw20.AnswersRows" = some 6 := by kernel_rfl
end Go.Proofs.YtcbdnkbdpdppcaaGreatDoor
