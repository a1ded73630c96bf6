/-
  The tied card of the law BgpNil holds: it returns true. Conditions: the two listed tables of package utf8, which the card ties to the text.
-/
import Derived.Test.YtcbdnkbdpdppcaaGreatDoorBgpB
import Derived.Test.YtcbdnkbdpdppcaaGreatDoorBgpK5
import Derived.Test.YtcbdnkbdpdppcaaGreatDoorGoes
namespace Go.Proofs.YtcbdnkbdpdppcaaGreatDoor
open Go.ChangeShapes Go.WideShapes Go.ChangeAt Go.RowKit
set_option maxRecDepth 100000
/-- The tied card. -/
theorem bgpNil_card_holds : Rows.BgpNilCardSaid :=
  Claim7.holds_tied_plain_at .later [] [.data, .pinned] true (true, "efb43ca113f850da68e63cb6b756803737c6ce505928801845eb0290eb2b3d01") true
    bgpNil_holds (fun _ h => by cases h) (by kernel_rfl) (fun _ h => by cases h) bgpNil_row_tie rfl ⟨rfl, rfl⟩ (by kernel_rfl) rfl
    (fun f fn hf hfn => by
      obtain rfl : f = 3 := Option.some.inj (bgpNil_k5.symm.trans hf) |>.symm
      obtain rfl : fn = Tryz.f3 := (Option.some.inj (Tryz.func3.symm.trans hfn)).symm
      exact ⟨by kernel_rfl, fun j t ht => by
        rw [Tryz.params3] at ht
        simp at ht⟩)
    (goesBy_none noGoes _ rfl)
#print axioms bgpNil_card_holds
end Go.Proofs.YtcbdnkbdpdppcaaGreatDoor
