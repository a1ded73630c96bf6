/-
  A closed fact of the row of AnswersRows: whether its code calls itself. No condition.
-/
import Derived.Test.YtcbdnkbdpdppcaaGreatDoorRows
import Derived.ProofKit
namespace Go.Proofs.YtcbdnkbdpdppcaaGreatDoor
set_option maxRecDepth 100000
theorem answersRows_k3 : (Rows.answersRowsRow.recurses == Tryz.prog.recurses 6) = true := by kernel_rfl
end Go.Proofs.YtcbdnkbdpdppcaaGreatDoor
