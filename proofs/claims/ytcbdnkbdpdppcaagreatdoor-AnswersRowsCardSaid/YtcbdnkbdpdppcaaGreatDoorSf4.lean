/-
  A closed fact of the row of AnswersRows: which variables its code names. No condition.
-/
import Derived.Test.YtcbdnkbdpdppcaaGreatDoorRows
import Derived.ProofKit
namespace Go.Proofs.YtcbdnkbdpdppcaaGreatDoor
set_option maxRecDepth 100000
theorem answersRows_k4 : (Rows.answersRowsRow.named == Tryz.prog.varsNamed 6) = true := by kernel_rfl
end Go.Proofs.YtcbdnkbdpdppcaaGreatDoor
