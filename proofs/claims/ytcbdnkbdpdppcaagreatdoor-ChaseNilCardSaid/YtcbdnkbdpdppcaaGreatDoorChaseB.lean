/-
  The row of the law ChaseNil holds. Conditions: those of the row.
-/
import Derived.Test.YtcbdnkbdpdppcaaGreatDoorChaseA
import Derived.Test.YtcbdnkbdpdppcaaGreatDoorChaseK3
import Derived.Test.YtcbdnkbdpdppcaaGreatDoorChaseK4
namespace Go.Proofs.YtcbdnkbdpdppcaaGreatDoor
open Go.ChangeShapes Go.WideShapes Go.ChangeAt Go.RowKit
set_option maxRecDepth 100000
theorem chaseNil_k1 : (Rows.chaseNilRow.inPlace == Tryz.prog.inPlace 4) = true := by kernel_rfl
theorem chaseNil_k2 : (Rows.chaseNilRow.unfollowed == Tryz.prog.unfollowed 4) = true := by kernel_rfl
theorem chaseNil_closed : joinedFacts Tryz.prog 4 Tryz.f4 Rows.chaseNilSpec Rows.chaseNilRow = true := by
  unfold joinedFacts
  rw [chaseNil_k1, chaseNil_k2, chaseNil_k3, chaseNil_k4]
  kernel_rfl
theorem chaseNil_holds : Rows.ChaseNilSaid :=
  OpenClaim.holds_of_wide 4 Tryz.f4 rfl rfl rfl rfl rfl rfl rfl ⟨rfl, rfl, rfl, rfl, rfl⟩ rfl rfl rfl rfl rfl (by kernel_rfl) Tryz.func4 chaseNil_closed
    (of_decide_eq_true (by kernel_rfl)) (by unfold Func.isWrapper; first | (rw [if_pos (by decide +kernel)]; kernel_rfl) | (rw [if_neg (by decide +kernel)]; exact ⟨rfl, rfl⟩))
    (fun os started H enc _ => chaseNil_lifted os started H enc)
end Go.Proofs.YtcbdnkbdpdppcaaGreatDoor
