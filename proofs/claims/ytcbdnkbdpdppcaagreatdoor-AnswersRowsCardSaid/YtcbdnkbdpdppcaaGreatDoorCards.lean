/-
  DERIVED. GIVEN WITH THE SEED: THE CARDS: each row of YtcbdnkbdpdppcaaGreatDoorRows.lean that lists a variable, with what it lists TIED to the program's text (the seventh form; the later family's looks); each row that meets fmt, with fmt's text TOLD by the authors' own Lean function (tested against real Go, not proved from fmt's source: count such statements apart). THE CARD IS WHAT COUNTS. Prove the row's statement (the work); the ties are given (YtcbdnkbdpdppcaaGreatDoorTie.lean); close each card by the builder's one call (the guide's Derived/Test/ToyasCard.lean, 'card_holds'). Laid BY PROGRAM, IN A SANDBOX (cutbox-door.mjs). By AI agents, Wed Nov 11 2026. No macro, syntax, notation, axiom, sorry.
-/
import Derived.Test.YtcbdnkbdpdppcaaGreatDoorRows
import GoSem.ClaimSeven
namespace Go.Proofs.YtcbdnkbdpdppcaaGreatDoor
namespace Rows

/-- THE TIED CARD OF 'rhizomelaw19.BgpNil'. -/
def bgpNilCard : Claim7 := { stood := { row := bgpNilRow, standIns := [], harness := (true, "efb43ca113f850da68e63cb6b756803737c6ce505928801845eb0290eb2b3d01"), looks := true }, kinds := [], alts := [], laidByText := true, laidKinds := [.data, .pinned], laidTests := true, laidLooks := .later }
def BgpNilCardSaid : Prop := Claim7.holds Tryz.pinned (.plain (OpenSpec.ofChange bgpNilSpec)) bgpNilCard

/-- THE TIED CARD OF 'rhizomelaw17.ChaseNil'. -/
def chaseNilCard : Claim7 := { stood := { row := chaseNilRow, standIns := [], harness := (true, "efb43ca113f850da68e63cb6b756803737c6ce505928801845eb0290eb2b3d01"), looks := true }, kinds := [], alts := [], laidByText := true, laidKinds := [.data, .pinned], laidTests := true, laidLooks := .later }
def ChaseNilCardSaid : Prop := Claim7.holds Tryz.pinned (.plain (OpenSpec.ofChange chaseNilSpec)) chaseNilCard

/-- THE TIED CARD OF 'rhizomelaw20.AnswersTexts'. -/
def answersTextsCard : Claim7 := { stood := { row := answersTextsRow, standIns := [], harness := (true, "efb43ca113f850da68e63cb6b756803737c6ce505928801845eb0290eb2b3d01"), looks := true }, kinds := [], alts := [], laidByText := true, laidKinds := [.data, .pinned], laidTests := true, laidLooks := .later }
def AnswersTextsCardSaid : Prop := Claim7.holds Tryz.pinned (.plain (OpenSpec.ofChange answersTextsSpec)) answersTextsCard

/-- THE TIED CARD OF 'rhizomelaw20.AnswersRows'. -/
def answersRowsCard : Claim7 := { stood := { row := answersRowsRow, standIns := [], harness := (true, "efb43ca113f850da68e63cb6b756803737c6ce505928801845eb0290eb2b3d01"), looks := true }, kinds := [], alts := [], laidByText := true, laidKinds := [.data, .pinned], laidTests := true, laidLooks := .later }
def AnswersRowsCardSaid : Prop := Claim7.holds Tryz.pinned (.plain (OpenSpec.ofChange answersRowsSpec)) answersRowsCard

/-- THE SECOND FORM's CARD OF 'rhizomelaw19.BgpNil'. -/
def bgpNilUptoCard : Claim7 := { stood := { row := bgpNilUptoRow, standIns := [], harness := (true, "efb43ca113f850da68e63cb6b756803737c6ce505928801845eb0290eb2b3d01"), looks := true }, kinds := [], alts := [], laidByText := true, laidKinds := [.data, .pinned], laidTests := true, laidLooks := .later }
def BgpNilUptoCardSaid : Prop := Claim7.holds Tryz.pinned (.plain (OpenSpec.upto bgpNilSpec)) bgpNilUptoCard

/-- THE SECOND FORM's CARD OF 'rhizomelaw17.ChaseNil'. -/
def chaseNilUptoCard : Claim7 := { stood := { row := chaseNilUptoRow, standIns := [], harness := (true, "efb43ca113f850da68e63cb6b756803737c6ce505928801845eb0290eb2b3d01"), looks := true }, kinds := [], alts := [], laidByText := true, laidKinds := [.data, .pinned], laidTests := true, laidLooks := .later }
def ChaseNilUptoCardSaid : Prop := Claim7.holds Tryz.pinned (.plain (OpenSpec.upto chaseNilSpec)) chaseNilUptoCard

/-- THE SECOND FORM's CARD OF 'rhizomelaw20.AnswersTexts'. -/
def answersTextsUptoCard : Claim7 := { stood := { row := answersTextsUptoRow, standIns := [], harness := (true, "efb43ca113f850da68e63cb6b756803737c6ce505928801845eb0290eb2b3d01"), looks := true }, kinds := [], alts := [], laidByText := true, laidKinds := [.data, .pinned], laidTests := true, laidLooks := .later }
def AnswersTextsUptoCardSaid : Prop := Claim7.holds Tryz.pinned (.plain (OpenSpec.upto answersTextsSpec)) answersTextsUptoCard

/-- THE SECOND FORM's CARD OF 'rhizomelaw20.AnswersRows'. -/
def answersRowsUptoCard : Claim7 := { stood := { row := answersRowsUptoRow, standIns := [], harness := (true, "efb43ca113f850da68e63cb6b756803737c6ce505928801845eb0290eb2b3d01"), looks := true }, kinds := [], alts := [], laidByText := true, laidKinds := [.data, .pinned], laidTests := true, laidLooks := .later }
def AnswersRowsUptoCardSaid : Prop := Claim7.holds Tryz.pinned (.plain (OpenSpec.upto answersRowsSpec)) answersRowsUptoCard
end Rows
end Go.Proofs.YtcbdnkbdpdppcaaGreatDoor
