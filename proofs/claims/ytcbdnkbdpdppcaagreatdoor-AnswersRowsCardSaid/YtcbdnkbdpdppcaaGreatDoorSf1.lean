/-
  That no function of the program starts a goroutine, and what follows of it for a row. No condition.
-/
import Derived.Test.YtcbdnkbdpdppcaaGreatDoorRows
import Derived.ProofKit
import GoSem.ClaimSeven
namespace Go.Proofs.YtcbdnkbdpdppcaaGreatDoor
open Go.ChangeShapes Go.WideShapes Go.ChangeAt Go.RowKit
set_option maxRecDepth 100000
theorem goesBy_none {P : Program} (h : P.funcs.any Func.goes = false) (c : OpenClaim) (hs : c.start = .entering) : false = c.goesBy P := by
  have hg : ∀ f, P.goes f = false := fun f => by
    unfold Program.goes
    rw [h, Bool.and_false, Bool.or_false]
    rw [List.any_eq_false]
    intro g _ hc
    cases hq : P.funcs[g]? with
    | none => rw [hq] at hc; cases hc
    | some fn =>
      rw [hq] at hc
      have hm : fn ∈ P.funcs := Array.mem_of_getElem? hq
      have := (Array.any_eq_false'.1 h) fn hm
      exact this hc
  unfold OpenClaim.goesBy Program.goesAt Program.goesFrom
  rw [hs]
  simp only [Bool.or_false]
  cases P.funcNamed c.func with
  | none => rfl
  | some f => exact (hg f).symm
theorem noGoes : Tryz.prog.funcs.any Func.goes = false := by kernel_rfl
end Go.Proofs.YtcbdnkbdpdppcaaGreatDoor
