/-
  The tied card of the law AnswersRows holds: it returns true. Conditions: the two listed tables of package utf8, which the card ties to the text.
-/
import Derived.Test.YtcbdnkbdpdppcaaGreatDoorSf5
import Derived.Test.YtcbdnkbdpdppcaaGreatDoorSf6
import Derived.Test.YtcbdnkbdpdppcaaGreatDoorSf1
namespace Go.Proofs.YtcbdnkbdpdppcaaGreatDoor
open Go.ChangeShapes Go.WideShapes Go.ChangeAt Go.RowKit
set_option maxRecDepth 100000
/-- The tied card. -/
theorem answersRows_card_holds : Rows.AnswersRowsCardSaid :=
  Claim7.holds_tied_plain_at .later [] [.data, .pinned] true (true, "efb43ca113f850da68e63cb6b756803737c6ce505928801845eb0290eb2b3d01") true
    answersRows_holds (fun _ h => by cases h) (by kernel_rfl) (fun _ h => by cases h) answersRows_row_tie rfl ⟨rfl, rfl⟩ (by kernel_rfl) rfl
    (fun f fn hf hfn => by
      obtain rfl : f = 6 := Option.some.inj (answersRows_k5.symm.trans hf) |>.symm
      obtain rfl : fn = Tryz.f6 := (Option.some.inj (Tryz.func6.symm.trans hfn)).symm
      exact ⟨by kernel_rfl, fun j t ht => by
        rw [Tryz.params6] at ht
        match j, ht with
        | 0, ht => cases Option.some.inj ht; exact (by kernel_rfl : Tryz.prog.wantsStandIn 69 = false)
        | 1, ht => cases Option.some.inj ht; exact (by kernel_rfl : Tryz.prog.wantsStandIn 69 = false)
        | 2, ht => cases Option.some.inj ht; exact (by kernel_rfl : Tryz.prog.wantsStandIn 4 = false)
        | n + 3, ht => simp at ht⟩)
    (goesBy_none noGoes _ rfl)
#print axioms answersRows_card_holds
end Go.Proofs.YtcbdnkbdpdppcaaGreatDoor
