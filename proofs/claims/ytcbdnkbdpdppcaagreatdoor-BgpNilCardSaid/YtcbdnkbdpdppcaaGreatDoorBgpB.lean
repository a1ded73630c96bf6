/-
  The row of the law BgpNil holds. Conditions: those of the row.
-/
import Derived.Test.YtcbdnkbdpdppcaaGreatDoorBgpA
import Derived.Test.YtcbdnkbdpdppcaaGreatDoorBgpK3
import Derived.Test.YtcbdnkbdpdppcaaGreatDoorBgpK4
namespace Go.Proofs.YtcbdnkbdpdppcaaGreatDoor
open Go.ChangeShapes Go.WideShapes Go.ChangeAt Go.RowKit
set_option maxRecDepth 100000
theorem bgpNil_k1 : (Rows.bgpNilRow.inPlace == Tryz.prog.inPlace 3) = true := by kernel_rfl
theorem bgpNil_k2 : (Rows.bgpNilRow.unfollowed == Tryz.prog.unfollowed 3) = true := by kernel_rfl
theorem bgpNil_closed : joinedFacts Tryz.prog 3 Tryz.f3 Rows.bgpNilSpec Rows.bgpNilRow = true := by
  unfold joinedFacts
  rw [bgpNil_k1, bgpNil_k2, bgpNil_k3, bgpNil_k4]
  kernel_rfl
theorem bgpNil_holds : Rows.BgpNilSaid :=
  OpenClaim.holds_of_wide 3 Tryz.f3 rfl rfl rfl rfl rfl rfl rfl ⟨rfl, rfl, rfl, rfl, rfl⟩ rfl rfl rfl rfl rfl (by kernel_rfl) Tryz.func3 bgpNil_closed
    (of_decide_eq_true (by kernel_rfl)) (by unfold Func.isWrapper; first | (rw [if_pos (by decide +kernel)]; kernel_rfl) | (rw [if_neg (by decide +kernel)]; exact ⟨rfl, rfl⟩))
    (fun os started H enc _ => bgpNil_lifted os started H enc)
end Go.Proofs.YtcbdnkbdpdppcaaGreatDoor
