/-
  That the tables, and what is answered at once, fit the program. No condition.
-/
import Derived.Test.YtcbdnkbdpdppcaaGreatDoorSc1
namespace Go.RA
open Go.RowKit
set_option maxRecDepth 100000
theorem extT_ok (f : FuncId) (args : List Value) (v : Value) (h : extT f args = some v) : args.all plain = true ∧ plain v = true ∧ ∀ w, (callFunc f ⟨args⟩).run Go.Proofs.Tryz.prog w = .ok (.value v) w := by
  unfold extT at h
  cases h1 : Nat.beq f 394 with
  | true =>
    have hf := Nat.eq_of_beq_eq_true h1
    subst hf
    rw [h1] at h
    simp only [cond_true] at h
    split at h
    · cases h
      refine ⟨rfl, rfl, fun w => ?_⟩
      rw [run_callFunc_extern (fn := Go.Proofs.Tryz.f394) (e := Extern.BytealgIndexByte.indexByte) Go.Proofs.Tryz.func394 (by kernel_rfl) (by kernel_rfl) (by kernel_rfl) (by kernel_rfl)]
      show ((Extern.BytealgIndexByte.indexByte #[_, _]).run _ w).andThen _ = _
      rw [Lib.run_indexByteString]
      rfl
    · cases h
  | false =>
    rw [h1] at h
    simp only [cond_false] at h
    cases h2 : Nat.beq f 324 with
    | true =>
      have hf := Nat.eq_of_beq_eq_true h2
      subst hf
      rw [h2] at h
      simp only [cond_true] at h
      split at h
      · cases h
        refine ⟨rfl, rfl, fun w => ?_⟩
        rw [run_callFunc_extern (fn := Go.Proofs.Tryz.f324) (e := Extern.BytealgCompare.compare) Go.Proofs.Tryz.func324 (by kernel_rfl) (by kernel_rfl) (by kernel_rfl) (by kernel_rfl)]
        show ((Extern.BytealgCompare.compare #[_, _]).run _ w).andThen _ = _
        rw [Lib.run_compareString]
        rfl
      · cases h
    | false => rw [h2] at h; cases h
theorem E0_ok : EnvOK Go.Proofs.Tryz.prog E0 := ⟨tyT_ok, fnT_ok, extT_ok, fun _ _ _ h => (by cases h), by kernel_rfl⟩
def mayArgs (x : List UInt8) : List Value := [.agg #[.int .i64 1, .string ⟨⟨x⟩⟩, .string ⟨#[]⟩]]
noncomputable def mayOK (x : List UInt8) : Bool := match aTop E0 500 93 (mayArgs x) with | some (.bool true) => true | _ => false
theorem may_all : mayT.all mayOK = true := by kernel_rfl
theorem memoT_ok (f : FuncId) (args : List Value) (v : Value) (h : memoT f args = some v) : args.all plain = true ∧ plain v = true ∧ (∀ w, (callFunc f ⟨args⟩).run Go.Proofs.Tryz.prog w = .ok (.enter f ⟨args⟩) w) ∧
    ∀ n w, CallsIn Fence.wide n Go.Proofs.Tryz.prog f ⟨args⟩ w fun e w' => e = .returned v ∧ Below w.heap.size w w' := by
  unfold memoT at h
  cases h1 : Nat.beq f 93 with
  | false => rw [h1] at h; cases h
  | true =>
    have hf := Nat.eq_of_beq_eq_true h1
    subst hf
    rw [h1] at h
    simp only [cond_true] at h
    split at h
    · rename_i cs
      split at h
      · rename_i a b hcs
        cases hb : (beqs b.data.toList [] && mayT.any fun x => beqs x a.data.toList) with
        | false => rw [hb] at h; cases h
        | true =>
          rw [hb] at h
          cases h
          rw [Bool.and_eq_true, beqs_eq, beq_iff_eq, List.any_eq_true] at hb
          obtain ⟨hb1, x, hx, hb2⟩ := hb
          rw [beqs_eq, beq_iff_eq] at hb2
          have hargs : [Value.agg cs] = mayArgs x := by
            have e1 : b = ⟨#[]⟩ := by
              cases b with
              | mk d => exact congrArg ByteArray.mk (toList_inj (by simpa using hb1))
            have e2 : a = ⟨⟨x⟩⟩ := by
              cases a with
              | mk d => exact congrArg ByteArray.mk (toList_inj (by simpa using hb2.symm))
            have e3 : cs = #[.int .i64 1, .string ⟨⟨x⟩⟩, .string ⟨#[]⟩] := toList_inj (by rw [hcs, e1, e2])
            rw [e3]; rfl
          rw [hargs]
          have hm := List.all_eq_true.1 may_all x hx
          unfold mayOK at hm
          split at hm
          · rename_i he
            have hc := fun w => aTop_calls (P := Go.Proofs.Tryz.prog) E0_ok he rfl rfl rfl w
            exact ⟨rfl, rfl, fun w => (hc w).1, fun n w => (hc w).2.more (Nat.zero_le n)⟩
          · cases hm
      · cases h
    · cases h
theorem E1_ok : EnvOK Go.Proofs.Tryz.prog E1 := ⟨tyT_ok, fnT_ok, extT_ok, memoT_ok, by kernel_rfl⟩
end Go.RA
