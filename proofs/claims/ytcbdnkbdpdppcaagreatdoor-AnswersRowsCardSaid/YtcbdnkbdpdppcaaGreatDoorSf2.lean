/-
  The lifted row of the law AnswersRows: its call returns true and leaves what lay in memory. Conditions: those of the row (the listed tables hold what the card ties them to).
-/
import Derived.Test.YtcbdnkbdpdppcaaGreatDoorRows
import Derived.Test.YtcbdnkbdpdppcaaGreatDoorCards
import Derived.Test.YtcbdnkbdpdppcaaGreatDoorTie
import Derived.Test.YtcbdnkbdpdppcaaGreatDoorSe1
import Derived.ProofKit
import Derived.Lay
import Derived.SevenTiedAt
import Derived.Carry
namespace Go.Proofs.YtcbdnkbdpdppcaaGreatDoor
open Go.ChangeShapes Go.WideShapes Go.ChangeAt Go.RowKit

theorem answersRows_own : ownKnob Tryz.prog.godebug = none := by kernel_rfl
theorem answersRows_out : laidOutB Tryz.prog = true := by kernel_rfl
theorem answersRows_rec4 : Tryz.prog.readableRec 4 = true := by kernel_rfl
theorem answersRows_rec : Tryz.prog.readableRec 69 = true := by kernel_rfl
theorem answersRows_conc {H : Type} {enc : TypeId × Value → H} {W : World} {a : Option Addr} {n c : Nat} {d : DataW H} {p : List MemPlace} (h : DataW.Trod enc Tryz.prog W 0 (fun _ => true) true 69 (.slice a n c) d p) : ∃ l, Go.RA.ConcRows W (.slice a n c) l := by
  obtain ⟨k, h⟩ := h
  obtain ⟨y, l, e, q⟩ := Go.RA.trod_rows (fun _ => rfl) h
  have : y = .slice a n c := by simp [Value.cells] at e; exact e.symm
  subst this
  exact ⟨l, q⟩
set_option maxRecDepth 100000 in
set_option maxHeartbeats 4000000 in
theorem answersRows_lifted (os : Os) (started : os.Started) (H : Type) (enc : TypeId × Value → H) :
    ReturnsInHanded {} Tryz.checked os 6 .any (fun w args => (Rows.answersRowsSpec.pre enc Tryz.prog Tryz.f6 [] false w args ∧ laidMetH Tryz.prog Rows.answersRowsRow.laid w) ∧ sizedMet enc Tryz.prog Tryz.f6 (OpenSpec.ofChange Rows.answersRowsSpec) false w args)
      (Rows.answersRowsSpec.post enc Tryz.prog Tryz.f6 false true false false) := by
  refine returnsInHanded_of_change_and (C := Tryz.checked) (X := fun w _ => laidMetH Tryz.prog Rows.answersRowsRow.laid w) (fun _ _ _ hh h => h.of_heap hh) answersRows_own started (by kernel_rfl) Tryz.func6
    (ChangeSpec.witness_shaped (enc := enc) (C := Tryz.checked) (os := os) (X := fun w _ => laidMetH Tryz.prog Rows.answersRowsRow.laid w) false (World.laidAll Tryz.prog os Rows.answersRowsRow.laid) #[.slice none 0 0, .slice none 0 0, .bool false] 8 (World.laidAll_os _ _ _)
      (World.shaped_of_ZipB (by kernel_rfl) (by kernel_rfl)) (by kernel_rfl) (by kernel_rfl) (by kernel_rfl)
      (by rw [MakeChecks.laidMetH_plain _ _ _ (by kernel_rfl)]; exact laidMet_laidAll _ (by kernel_rfl) (by kernel_rfl))) ?_
  intro W base args ds gs before hval0 hW _ _ hL _
  have hW' := hW
  obtain ⟨p, q, hA0, hV, rfl, _, _⟩ := hW
  have hA : DataW.TrodAll enc Tryz.prog W 0 (fun _ => true) true Tryz.f6.params.toList args.toList ds p := hA0
  rw [Tryz.params6] at hA
  obtain ⟨v1, v2, v3, d1, d2, d3, p1, p2, p3, rfl, rfl, rfl, x1, x2, x3⟩ := trodAll_three hA
  obtain ⟨rfl, rfl⟩ := trodVars_none hV
  simp only [List.append_nil] at hW'
  have hval : ∀ (j : Nat) t v, Tryz.f6.params[j]? = some t → #[v1, v2, v3][j]? = some v → Value.okWide Tryz.prog W .any base t v := hval0
  have hlt : ∀ x ∈ p1 ++ p2 ++ p3, x.block < W.heap.size := fun x hx => DataW.TrodAll.lt hA x hx
  obtain ⟨a1, n1, c1, rfl⟩ := okWide_slice Tryz.underlying69 (hval 0 69 v1 rfl rfl)
  obtain ⟨a2, n2, c2, rfl⟩ := okWide_slice Tryz.underlying69 (hval 1 69 v2 rfl rfl)
  obtain ⟨b, rfl⟩ := okWide_bool Tryz.underlying4 (hval 2 4 v3 rfl rfl)
  have k1 := answersRows_conc x1
  have k2 := answersRows_conc x2
  obtain ⟨l, k1⟩ := k1
  obtain ⟨o, k2⟩ := k2
  refine (callsIn_wide.1 (Go.RA.law6 W k1 k2 b)).mono fun e W' ⟨he, hb⟩ => ?_
  subst he
  exact ⟨_, rfl, _, _, _, [], _, [], hW', trodAll_mk1 (shut_bool Tryz.underlying4 _),
    trodAll_mk3 (Below.trod answersRows_out answersRows_rec (of_decide_eq_true (by kernel_rfl)) x1 hb fun x hx => hlt x (by simp [hx]))
      (Below.trod answersRows_out answersRows_rec (of_decide_eq_true (by kernel_rfl)) x2 hb fun x hx => hlt x (by simp [hx]))
      (Below.trod answersRows_out answersRows_rec4 (of_decide_eq_true (by kernel_rfl)) x3 hb fun x hx => hlt x (by simp [hx])), rfl, hb.frame _, fun h => by cases h⟩
end Go.Proofs.YtcbdnkbdpdppcaaGreatDoor
