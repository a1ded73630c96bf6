/-
  The row of the law AnswersRows holds. Conditions: those of the row.
-/
import Derived.Test.YtcbdnkbdpdppcaaGreatDoorSf2
import Derived.Test.YtcbdnkbdpdppcaaGreatDoorSf3
import Derived.Test.YtcbdnkbdpdppcaaGreatDoorSf4
namespace Go.Proofs.YtcbdnkbdpdppcaaGreatDoor
open Go.ChangeShapes Go.WideShapes Go.ChangeAt Go.RowKit
set_option maxRecDepth 100000
theorem answersRows_k1 : (Rows.answersRowsRow.inPlace == Tryz.prog.inPlace 6) = true := by kernel_rfl
theorem answersRows_k2 : (Rows.answersRowsRow.unfollowed == Tryz.prog.unfollowed 6) = true := by kernel_rfl
theorem answersRows_closed : joinedFacts Tryz.prog 6 Tryz.f6 Rows.answersRowsSpec Rows.answersRowsRow = true := by
  unfold joinedFacts
  rw [answersRows_k1, answersRows_k2, answersRows_k3, answersRows_k4]
  kernel_rfl
theorem answersRows_holds : Rows.AnswersRowsSaid :=
  OpenClaim.holds_of_wide 6 Tryz.f6 rfl rfl rfl rfl rfl rfl rfl ⟨rfl, rfl, rfl, rfl, rfl⟩ rfl rfl rfl rfl rfl (by kernel_rfl) Tryz.func6 answersRows_closed
    (of_decide_eq_true (by kernel_rfl)) (by unfold Func.isWrapper; first | (rw [if_pos (by decide +kernel)]; kernel_rfl) | (rw [if_neg (by decide +kernel)]; exact ⟨rfl, rfl⟩))
    (fun os started H enc _ => answersRows_lifted os started H enc)
end Go.Proofs.YtcbdnkbdpdppcaaGreatDoor
