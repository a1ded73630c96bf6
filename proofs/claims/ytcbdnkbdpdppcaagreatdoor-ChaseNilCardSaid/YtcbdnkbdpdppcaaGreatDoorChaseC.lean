/-
  The tied card of the law ChaseNil holds: it returns true. Conditions: the two listed tables of package utf8, which the card ties to the text.
-/
import Derived.Test.YtcbdnkbdpdppcaaGreatDoorChaseB
import Derived.Test.YtcbdnkbdpdppcaaGreatDoorChaseK5
import Derived.Test.YtcbdnkbdpdppcaaGreatDoorGoes
namespace Go.Proofs.YtcbdnkbdpdppcaaGreatDoor
open Go.ChangeShapes Go.WideShapes Go.ChangeAt Go.RowKit
set_option maxRecDepth 100000
/-- The tied card. -/
theorem chaseNil_card_holds : Rows.ChaseNilCardSaid :=
  Claim7.holds_tied_plain_at .later [] [.data, .pinned] true (true, "efb43ca113f850da68e63cb6b756803737c6ce505928801845eb0290eb2b3d01") true
    chaseNil_holds (fun _ h => by cases h) (by kernel_rfl) (fun _ h => by cases h) chaseNil_row_tie rfl ⟨rfl, rfl⟩ (by kernel_rfl) rfl
    (fun f fn hf hfn => by
      obtain rfl : f = 4 := Option.some.inj (chaseNil_k5.symm.trans hf) |>.symm
      obtain rfl : fn = Tryz.f4 := (Option.some.inj (Tryz.func4.symm.trans hfn)).symm
      exact ⟨by kernel_rfl, fun j t ht => by
        rw [Tryz.params4] at ht
        simp at ht⟩)
    (goesBy_none noGoes _ rfl)
#print axioms chaseNil_card_holds
end Go.Proofs.YtcbdnkbdpdppcaaGreatDoor
