/-
  Rules by which what the abstract evaluator computes is told for all inputs at once: steps, calls, loops, drawn regions. No condition.
-/
import Derived.Test.YtcbdnkbdpdppcaaGreatDoorSa2
namespace Go.RA
variable {E : Env}

/-! ### Rules for codes -/
/-- From some fuel on the code comes to an end, and there Q holds. -/
def Rs (E : Env) (cx : Cx) (c : Code) (st : ASt) (Q : AExit → ASt → Prop) : Prop :=
  ∃ N x st', (∀ m, N ≤ m → aCode E (aRun E m) cx c st = some (x, st')) ∧ Q x st'
def Sq (E : Env) (cx : Cx) (all ops : List Oper) (tm : Fr) (h : AH) (Q : Fr → AH → Prop) : Prop :=
  ∃ N tm' h', (∀ m, N ≤ m → aSeq E (aRun E m) cx all ops tm h = some (tm', h')) ∧ Q tm' h'
def Cv (E : Env) (fv : Value) (args : List Value) (h : AH) (Q : Value → AH → Prop) : Prop :=
  ∃ N v h', (∀ m, N ≤ m → aCall E (aRun E m) fv args h = some (v, h')) ∧ Q v h'
def Cl (E : Env) (f : FuncId) (args : List Value) (h : AH) (Q : Value → AH → Prop) : Prop :=
  ∃ N v h', (∀ m, N ≤ m → aEnter E (aRun E m) f args h = some (v, h')) ∧ Q v h'
theorem Rs.mono {cx : Cx} {c : Code} {st : ASt} {Q R : AExit → ASt → Prop} (k : Rs E cx c st Q) (h : ∀ x st', Q x st' → R x st') : Rs E cx c st R :=
  let ⟨N, x, st', h1, h2⟩ := k; ⟨N, x, st', h1, h _ _ h2⟩
theorem Cl.mono {f : FuncId} {args : List Value} {h : AH} {Q R : Value → AH → Prop} (k : Cl E f args h Q) (hr : ∀ v h', Q v h' → R v h') : Cl E f args h R :=
  let ⟨N, x, st', h1, h2⟩ := k; ⟨N, x, st', h1, hr _ _ h2⟩
/-- What is asked of the first of two codes. -/
def thenQ (E : Env) (cx : Cx) (b : Code) (Q : AExit → ASt → Prop) : AExit → ASt → Prop
  | .normal, st => Rs E cx b st Q
  | .exit i, st => Q (.exit i) st
  | .goto l, st => Q (.goto l) st
  | .ret, st => Q .ret st
theorem Rs.seq {cx : Cx} {a b : Code} {st : ASt} {Q : AExit → ASt → Prop} (k : Rs E cx a st (thenQ E cx b Q)) : Rs E cx (.seq a b) st Q := by
  obtain ⟨N, x, st1, h1, h2⟩ := k
  cases x with
  | normal =>
    obtain ⟨M, y, st2, h3, h4⟩ := h2
    exact ⟨max N M, y, st2, fun m hm => by simp only [aCode, h1 m (by omega), h3 m (by omega)], h4⟩
  | _ => exact ⟨N, _, st1, fun m hm => by simp only [aCode, h1 m hm], h2⟩
theorem Rs.skip {cx : Cx} {st : ASt} {Q : AExit → ASt → Prop} (h : Q .normal st) : Rs E cx .skip st Q := ⟨0, _, _, fun _ _ => rfl, h⟩
theorem Rs.label {cx : Cx} {l : Nat} {st : ASt} {Q : AExit → ASt → Prop} (h : Q .normal st) : Rs E cx (.label l) st Q := ⟨0, _, _, fun _ _ => rfl, h⟩
theorem Rs.exit {cx : Cx} {i : Nat} {st : ASt} {Q : AExit → ASt → Prop} (h : Q (.exit i) st) : Rs E cx (.exit i) st Q := ⟨0, _, _, fun _ _ => rfl, h⟩
theorem Rs.goto {cx : Cx} {i : Nat} {st : ASt} {Q : AExit → ASt → Prop} (h : Q (.goto i) st) : Rs E cx (.goto i) st Q := ⟨0, _, _, fun _ _ => rfl, h⟩
theorem Rs.ret {cx : Cx} {st : ASt} {Q : AExit → ASt → Prop} (h : Q .ret st) : Rs E cx .ret st Q := ⟨0, _, _, fun _ _ => rfl, h⟩
theorem Rs.cond {cx : Cx} {c : Operand} {a b : Code} {st : ASt} {Q : AExit → ASt → Prop} {t : Bool} (hc : opnd cx st.tm c = some (.bool t)) (ha : t = true → Rs E cx a st Q) (hb : t = false → Rs E cx b st Q) : Rs E cx (.cond c a b) st Q := by
  cases t with
  | true => obtain ⟨N, x, st', h1, h2⟩ := ha rfl; exact ⟨N, x, st', fun m hm => by simp only [aCode, hc, h1 m hm], h2⟩
  | false => obtain ⟨N, x, st', h1, h2⟩ := hb rfl; exact ⟨N, x, st', fun m hm => by simp only [aCode, hc, h1 m hm], h2⟩
/-- What is asked of a block's code. -/
def blockQ (id : Nat) (Q : AExit → ASt → Prop) : AExit → ASt → Prop
  | .normal, st => Q .normal st
  | .exit i, st => bif Nat.beq i id then Q .normal st else Q (.exit i) st
  | .goto l, st => Q (.goto l) st
  | .ret, st => Q .ret st
theorem Rs.block {cx : Cx} {id : Nat} {c : Code} {st : ASt} {Q : AExit → ASt → Prop} (k : Rs E cx c st (blockQ id Q)) : Rs E cx (.block id c) st Q := by
  obtain ⟨N, x, st1, h1, h2⟩ := k
  cases x with
  | exit i =>
    cases hb : Nat.beq i id with
    | true => exact ⟨N, .normal, st1, fun m hm => by simp only [aCode, h1 m hm, hb, cond_true], by simpa [blockQ, hb] using h2⟩
    | false => exact ⟨N, .exit i, st1, fun m hm => by simp only [aCode, h1 m hm, hb, cond_false], by simpa [blockQ, hb] using h2⟩
  | _ => exact ⟨N, _, st1, fun m hm => by simp only [aCode, h1 m hm], h2⟩
/-- What is asked of a round. -/
def loopQ (E : Env) (cx : Cx) (c : Code) (Q : AExit → ASt → Prop) : AExit → ASt → Prop := thenQ E cx (.loop c) Q
theorem Rs.loop {cx : Cx} {c : Code} {st : ASt} {Q : AExit → ASt → Prop} (k : Rs E cx c st (thenQ E cx (.loop c) Q)) : Rs E cx (.loop c) st Q := by
  obtain ⟨N, x, st1, h1, h2⟩ := k
  cases x with
  | normal =>
    obtain ⟨M, y, st2, h3, h4⟩ := h2
    refine ⟨max N (M + 1), y, st2, fun m hm => ?_, h4⟩
    obtain ⟨m', rfl⟩ : ∃ m', m = m' + 1 := ⟨m - 1, by omega⟩
    rw [aCode, h1 _ (by omega)]
    show aCode E (aRun E m') cx (.loop c) st1 = _
    exact h3 m' (by omega)
  | _ => exact ⟨N, _, st1, fun m hm => by simp only [aCode, h1 m hm], h2⟩
/-- A loop, by what holds ahead of each round, and a number that falls. -/
theorem Rs.loopI {cx : Cx} {c : Code} {Q : AExit → ASt → Prop} (I : Nat → ASt → Prop) (hI : ∀ k st, I k st → Rs E cx c st fun x st' => match x with
    | .normal => ∃ k', k' < k ∧ I k' st'
    | .exit i => Q (.exit i) st'
    | .goto l => Q (.goto l) st'
    | .ret => Q .ret st') : ∀ k st, I k st → Rs E cx (.loop c) st Q := by
  intro k
  induction k using Nat.strongRecOn with
  | ind k ih =>
    intro st h
    refine Rs.loop ((hI k st h).mono fun x st' hx => ?_)
    cases x with
    | normal => obtain ⟨k', h1, h2⟩ := hx; exact ih k' h1 st' h2
    | _ => exact hx
theorem Rs.region {cx : Cx} {id : Nat} {ops : Array Oper} {st : ASt} {Q : AExit → ASt → Prop} (k : Sq E cx ops.toList ops.toList st.tm.cut st.h fun tm' h' => Q .normal ⟨tm', st.df, h'⟩) : Rs E cx (.region id ops false) st Q := by
  obtain ⟨tm, df, h⟩ := st
  obtain ⟨N, tm', h', h1, h2⟩ := k
  refine ⟨N, .normal, ⟨tm', df, h'⟩, fun m hm => ?_, h2⟩
  have := h1 m hm
  simp only at this
  simp only [aCode, cutSt, aRegion, this]
theorem Sq.nil {cx : Cx} {all : List Oper} {tm : Fr} {h : AH} {Q : Fr → AH → Prop} (k : Q tm h) : Sq E cx all [] tm h Q := ⟨0, _, _, fun _ _ => rfl, k⟩
theorem Sq.op {cx : Cx} {all r : List Oper} {o : Oper} {tm tm' : Fr} {h h' : AH} {v : Value} {Q : Fr → AH → Prop} (hw : wantedA cx all o.guard tm = some true) (ho : ∀ ih, aAny E ih cx o.op tm h = some (v, h'))
    (hp : putD cx tm o.dst v = some tm') (k : Sq E cx all r tm' h' Q) : Sq E cx all (o :: r) tm h Q := by
  obtain ⟨N, t2, h2, k1, k2⟩ := k
  obtain ⟨dst, op, a, b, c, g⟩ := o
  exact ⟨N, t2, h2, fun m hm => by simp only at hw ho hp; simp only [aSeq, hw, ho, hp, k1 m hm], k2⟩
theorem Sq.off {cx : Cx} {all r : List Oper} {o : Oper} {tm tm' : Fr} {h : AH} {Q : Fr → AH → Prop} (hw : wantedA cx all o.guard tm = some false)
    (hp : putD cx tm o.dst undef = some tm') (k : Sq E cx all r tm' h Q) : Sq E cx all (o :: r) tm h Q := by
  obtain ⟨N, t2, h2, k1, k2⟩ := k
  obtain ⟨dst, op, a, b, c, g⟩ := o
  exact ⟨N, t2, h2, fun m hm => by simp only at hw hp; simp only [aSeq, hw, hp, k1 m hm], k2⟩
/-- The operation is a call of a value. -/
def callOf : Op → Option (Operand × Array Operand)
  | .call { callee := .value f, args, .. } => some (f, args)
  | _ => none
theorem aAny_call {ih : Runner} {cx : Cx} {op : Op} {f : Operand} {args : Array Operand} (hc : callOf op = some (f, args)) (tm : Fr) (h : AH) {fv : Value} {vs : List Value} (hf : opnd cx tm f = some fv) (hv : opnds cx tm args.toList = some vs) :
    aAny E ih cx op tm h = aCall E ih fv vs h := by
  unfold callOf at hc
  split at hc
  · cases hc; simp only [aAny, hf, hv]
  · cases hc
theorem Sq.call {cx : Cx} {all r : List Oper} {o : Oper} {tm : Fr} {h : AH} {f : Operand} {args : Array Operand} {fv : Value} {vs : List Value} {Q : Fr → AH → Prop} (hw : wantedA cx all o.guard tm = some true) (hc : callOf o.op = some (f, args))
    (hf : opnd cx tm f = some fv) (hv : opnds cx tm args.toList = some vs) (k : Cv E fv vs h fun v h' => ∃ tm', putD cx tm o.dst v = some tm' ∧ Sq E cx all r tm' h' Q) : Sq E cx all (o :: r) tm h Q := by
  obtain ⟨N, v, h', k1, tm', hp, M, t2, h2, k2, k3⟩ := k
  obtain ⟨dst, op, a, b, c, g⟩ := o
  refine ⟨max N M, t2, h2, fun m hm => ?_, k3⟩
  simp only at hw hp hc
  simp only [aSeq, hw, aAny_call hc tm h hf hv, k1 m (by omega), hp, k2 m (by omega)]
theorem Cv.of {f : FuncId} {first cap : Array Value} {args : List Value} {h : AH} {Q : Value → AH → Prop} (k : Cl E f (first.toList ++ (args ++ cap.toList)) h Q) : Cv E (.func (.func f) first cap) args h Q := by
  obtain ⟨N, v, h', k1, k2⟩ := k
  exact ⟨N, v, h', fun m hm => by simp only [aCall, k1 m hm], k2⟩
theorem Cl.memo {f : FuncId} {args : List Value} {h : AH} {v : Value} {Q : Value → AH → Prop} (hx : E.ext f args = none) (hm : E.memo f args = some v) (k : Q v h) : Cl E f args h Q :=
  ⟨0, v, h, fun m _ => by simp only [aEnter, hx, aBody, hm], k⟩
theorem Cl.ext {f : FuncId} {args : List Value} {h : AH} {v : Value} {Q : Value → AH → Prop} (hx : E.ext f args = some v) (k : Q v h) : Cl E f args h Q :=
  ⟨0, v, h, fun m _ => by simp only [aEnter, hx], k⟩
/-- What is asked of a function's body. -/
def bodyQ (E : Env) (cx : Cx) (rs : List ResultVar) (Q : Value → AH → Prop) (x : AExit) (st : ASt) : Prop :=
  (x = .normal ∨ x = .ret) ∧ ∃ vs v h', resultsA E cx rs st.tm st.h = some vs ∧ kills st.h st.df = some h' ∧ mkRes vs = some v ∧ Q v h'
theorem Cl.body {f : FuncId} {args : List Value} {h : AH} {Q : Value → AH → Prop} {fn : Func} {c : Code} {fr : Fr} (hx : E.ext f args = none) (hm : E.memo f args = none) (hf : E.fn f = some fn) (hc : fn.body = some c)
    (hfr : argsFr ⟨none, fn.ntmps, E.keep f⟩ args 0 ⟨start0 E (E.keep f) fn.ntmps, .nil⟩ = some fr) (k : Rs E ⟨none, fn.ntmps, E.keep f⟩ c ⟨fr, [], h⟩ (bodyQ E ⟨none, fn.ntmps, E.keep f⟩ fn.results.toList Q)) : Cl E f args h Q := by
  obtain ⟨N, x, st, k1, k2, vs, v, h', k3, k4, k5, k6⟩ := k
  obtain ⟨tm, df, h2⟩ := st
  refine ⟨N + 1, v, h', fun m hm' => ?_, k6⟩
  obtain ⟨m', rfl⟩ : ∃ m', m = m' + 1 := ⟨m - 1, by omega⟩
  have k7 : aRun E (m' + 1) ⟨none, fn.ntmps, E.keep f⟩ c ⟨fr, [], h⟩ = some (x, ⟨tm, df, h2⟩) := k1 m' (by omega)
  simp only at k3 k4
  simp only [aEnter, hx, aBody, hm, hf, hc, hfr, k7]
  rcases k2 with rfl | rfl <;> simp only [k3, k4, k5]
/-- The same, its numbers in sight. -/
theorem Cl.fn {f : FuncId} {args : List Value} {h : AH} {Q : Value → AH → Prop} (fn : Func) (n mask : Nat) (rs : List ResultVar) {c : Code} {fr : Fr} (hx : E.ext f args = none) (hm : E.memo f args = none) (hf : E.fn f = some fn) (hc : fn.body = some c) (hn : fn.ntmps = n) (hk : E.keep f = mask)
    (hrs : fn.results.toList = rs) (hfr : argsFr ⟨none, n, mask⟩ args 0 ⟨start0 E mask n, .nil⟩ = some fr) (k : Rs E ⟨none, n, mask⟩ c ⟨fr, [], h⟩ (bodyQ E ⟨none, n, mask⟩ rs Q)) : Cl E f args h Q := by
  subst hn hk hrs
  exact Cl.body hx hm hf hc hfr k
end Go.RA
namespace Go.RA
variable {E : Env}

/-! ### Regions whose order is drawn -/
def AH.WF (h : AH) : Prop := ∀ i, h.size ≤ i → h.get i = none
def Keeps (h h' : AH) : Prop := ∀ i o, h.get i = some o → h'.get i = some o
theorem Keeps.refl (h : AH) : Keeps h h := fun _ _ e => e
theorem Keeps.trans {a b c : AH} (h : Keeps a b) (k : Keeps b c) : Keeps a c := fun i o e => k i o (h i o e)
theorem AH.WF.push {h h' : AH} {o : AObj} (w : h.WF) (hp : h.push o = some h') : h'.WF := fun i hi => by
  rw [push_size hp] at hi
  rw [AH.get_push hp, if_neg (by omega)]
  exact w i (by omega)
theorem AH.WF.put {h : AH} (w : h.WF) {i : Nat} (hi : i < h.size) (o : AObj) : (h.put i o).WF := fun j hj => by
  have hj' : h.size ≤ j := hj
  rw [AH.get_put, if_neg (by omega)]
  exact w j hj'
theorem keeps_push {h h' : AH} {o : AObj} (w : h.WF) (hp : h.push o = some h') : Keeps h h' := fun i q e => by
  rw [AH.get_push hp]
  by_cases c : h.size = i
  · rw [w i (by omega)] at e; cases e
  · rw [if_neg c]; exact e
theorem AH.WF.lt {h : AH} (w : h.WF) {i : Nat} {o : AObj} (e : h.get i = some o) : i < h.size := by
  rcases Nat.lt_or_ge i h.size with c | c
  · exact c
  · rw [w i c] at e; cases e

theorem aLoad_keep {t : TypeId} {p v : Value} {h h' : AH} (k : Keeps h h') (e : aLoad E t p h = some v) : aLoad E t p h' = some v := by
  unfold aLoad at e ⊢
  split at e
  · split at e
    · rename_i hg; rw [k _ _ hg]; exact e
    · cases e
  · cases e
theorem aConv_keep {s d : TypeId} {x v : Value} {h h' : AH} (k : Keeps h h') (e : aConv E s d x h = some v) : aConv E s d x h' = some v := by
  unfold aConv at e ⊢
  split at e
  · exact e
  · exact e
  · exact e
  · split at e
    · split at e
      · exact e
      · split at e
        · rename_i hg; rw [k _ _ hg]; exact e
        · cases e
      · cases e
    · cases e
  · cases e
theorem mapAt_keep {m : Value} {x : Option Nat × List MapEntry × Nat} {h h' : AH} (k : Keeps h h') (e : mapAt h m = some x) : mapAt h' m = some x := by
  unfold mapAt at e ⊢
  split at e
  · exact e
  · split at e
    · rename_i hg; rw [k _ _ hg]; exact e
    · cases e
  · cases e
theorem aLookup_keep {t : TypeId} {m k v : Value} {ok : Bool} {h h' : AH} (kp : Keeps h h') (e : aLookup E t m k ok h = some v) : aLookup E t m k ok h' = some v := by
  unfold aLookup at e ⊢
  split at e
  · split at e
    · cases e
    · rename_i hk
      rw [if_neg hk]
      rw [Option.bind_eq_some_iff] at e ⊢
      obtain ⟨x, hx, e⟩ := e
      exact ⟨x, mapAt_keep kp hx, e⟩
  · cases e
theorem aLen_keep {ts : List TypeId} {args : List Value} {v : Value} {h h' : AH} (k : Keeps h h') (e : aLen E ts args h = some v) : aLen E ts args h' = some v := by
  unfold aLen at e ⊢
  split at e
  · split at e
    · exact e
    · exact e
    · exact e
    · exact e
    · split at e
      · rename_i hg; rw [k _ _ hg]; exact e
      · cases e
    · cases e
  · cases e
theorem aOp_keep {cx : Cx} {op : Op} {tm : Fr} {h h' h1 : AH} {v : Value} (hc : cls op = .reads) (k : Keeps h h') (hr : aOp E cx op tm h = some (v, h1)) : aOp E cx op tm h' = some (v, h') := by
  cases op with
  | load t a =>
    simp only [aOp, Option.bind_eq_some_iff, Option.map_eq_some_iff, Prod.mk.injEq] at hr ⊢
    obtain ⟨p, hp, u, hu, rfl, _⟩ := hr
    exact ⟨p, hp, _, aLoad_keep k hu, rfl, trivial⟩
  | convert s d x =>
    simp only [aOp, Option.bind_eq_some_iff, Option.map_eq_some_iff, Prod.mk.injEq] at hr ⊢
    obtain ⟨p, hp, u, hu, rfl, _⟩ := hr
    exact ⟨p, hp, _, aConv_keep k hu, rfl, trivial⟩
  | lookup t m kk ok =>
    simp only [aOp, Option.bind_eq_some_iff, Option.map_eq_some_iff, Prod.mk.injEq] at hr ⊢
    obtain ⟨p, hp, q, hq, u, hu, rfl, _⟩ := hr
    exact ⟨p, hp, q, hq, _, aLookup_keep k hu, rfl, trivial⟩
  | call c =>
    obtain ⟨cal, args, ats⟩ := c
    cases cal with
    | builtin b =>
      cases b <;> try (simp [cls] at hc; done)
      simp only [aOp, Option.bind_eq_some_iff, Option.map_eq_some_iff, Prod.mk.injEq] at hr ⊢
      obtain ⟨p, hp, u, hu, rfl, _⟩ := hr
      exact ⟨p, hp, _, aLen_keep k hu, rfl, trivial⟩
    | _ => simp [cls] at hc
  | _ => simp [cls] at hc
/-- What lays a new object. -/
theorem makes_push {cx : Cx} {op : Op} {tm : Fr} {h h1 : AH} {v : Value} (hc : cls op = .makes) (hr : aOp E cx op tm h = some (v, h1)) : ∃ o, h.push o = some h1 := by
  have pc : ∀ {cs : List Value} {e z b : Nat} {h2 : AH}, pushCells h cs e z = some (b, h2) → ∃ o, h.push o = some h2 := fun hp => ⟨_, (pushCells_some hp).2.2⟩
  cases op with
  | alloc e =>
    simp only [aOp, Option.bind_eq_some_iff, Option.map_eq_some_iff, Prod.mk.injEq] at hr
    obtain ⟨z, hz, ⟨b, h2⟩, hp, _, rfl⟩ := hr; exact pc hp
  | box e x =>
    simp only [aOp, Option.bind_eq_some_iff, Option.map_eq_some_iff, Prod.mk.injEq] at hr
    obtain ⟨z, hz, ⟨b, h2⟩, hp, _, rfl⟩ := hr; exact pc hp
  | buildSlice t n ps =>
    simp only [aOp, Option.bind_eq_some_iff, aBuildSlice] at hr
    obtain ⟨vs, _, hr⟩ := hr
    split at hr
    · simp only [Option.bind_eq_some_iff] at hr
      obtain ⟨sz, _, z, _, hr⟩ := hr
      split at hr
      · cases hr
      · simp only [Option.bind_eq_some_iff, Option.map_eq_some_iff, Prod.mk.injEq] at hr
        obtain ⟨cs, _, ⟨b, h2⟩, hp, _, rfl⟩ := hr; exact pc hp
    · cases hr
  | makeSlice t l c =>
    simp only [aOp, Option.bind_eq_some_iff, aMakeSlice] at hr
    obtain ⟨lv, _, cv, _, hr⟩ := hr
    split at hr
    · simp only [Option.bind_eq_some_iff] at hr
      obtain ⟨sz, _, by_, _, z, _, hr⟩ := hr
      split at hr
      · cases hr
      · simp only [Option.map_eq_some_iff, Prod.mk.injEq] at hr
        obtain ⟨⟨b, h2⟩, hp, _, rfl⟩ := hr; exact pc hp
    · cases hr
  | makeMap t r =>
    cases r with
    | none =>
      simp only [aOp, Option.map_eq_some_iff, Prod.mk.injEq] at hr
      obtain ⟨h2, hp, _, rfl⟩ := hr; exact ⟨_, hp⟩
    | some x =>
      simp only [aOp] at hr
      split at hr
      · simp only [Option.map_eq_some_iff, Prod.mk.injEq] at hr
        obtain ⟨h2, hp, _, rfl⟩ := hr; exact ⟨_, hp⟩
      · cases hr
  | call c =>
    obtain ⟨cal, args, ats⟩ := c
    cases cal with
    | builtin b => cases b <;> simp [cls] at hc
    | _ => simp [cls] at hc
  | _ => simp [cls] at hc

def isLoud (ops : List Oper) (i : Nat) : Bool := match lget ops i with | some o => decide (cls o.op = .loud) | none => false
def isSoft (ops : List Oper) (i : Nat) : Bool := match lget ops i with | some o => decide (cls o.op = .reads) || decide (cls o.op = .makes) | none => false
/-- Is each that reads or lays held apart from the loud ones by the edges (keep: from those ahead of it)? -/
def statOK (keep : Bool) (b : List Nat) (ops : List Oper) : List Nat → List Nat → Bool
  | _, [] => true
  | done, i :: r =>
    (!(isSoft ops i) || ((done.all fun y => !(isLoud ops y) || (bitOf b i y && !(bitOf b y i))) && (r.all fun y => !(isLoud ops y) || (!(bitOf b i y) && (keep || bitOf b y i))))) && statOK keep b ops (i :: done) r
theorem statOK_split {keep : Bool} {b : List Nat} {ops : List Oper} : ∀ {l done : List Nat}, statOK keep b ops done l = true → ∀ {d r : List Nat} {i : Nat}, l = d ++ i :: r → isSoft ops i = true →
    (∀ y ∈ d, isLoud ops y = true → bitOf b i y = true ∧ bitOf b y i = false) ∧ (∀ y ∈ done, isLoud ops y = true → bitOf b i y = true ∧ bitOf b y i = false) ∧ (∀ y ∈ r, isLoud ops y = true → bitOf b i y = false ∧ (keep = true ∨ bitOf b y i = true)) := by
  intro l
  induction l with
  | nil => intro done h d r i e; cases d <;> cases e
  | cons j l ih =>
    intro done h d r i e hs
    simp only [statOK, Bool.and_eq_true] at h
    cases d with
    | nil =>
      simp only [List.nil_append, List.cons.injEq] at e
      obtain ⟨rfl, rfl⟩ := e
      have h1 := h.1
      simp only [hs, Bool.not_true, Bool.false_or, Bool.and_eq_true, List.all_eq_true, Bool.or_eq_true, Bool.not_eq_true'] at h1
      refine ⟨fun y hy => (by cases hy), fun y hy hl => ?_, fun y hy hl => ?_⟩
      · rcases h1.1 y hy with h2 | h2
        · rw [hl] at h2; cases h2
        · exact h2
      · rcases h1.2 y hy with h2 | h2
        · rw [hl] at h2; cases h2
        · exact h2
    | cons a d =>
      simp only [List.cons_append, List.cons.injEq] at e
      obtain ⟨rfl, e⟩ := e
      obtain ⟨h2, h3, h4⟩ := ih h.2 e hs
      refine ⟨fun y hy hl => ?_, fun y hy hl => h3 y (by simp [hy]) hl, h4⟩
      rcases List.mem_cons.1 hy with rfl | hy
      · exact h3 y (by simp) hl
      · exact h2 y hy hl

/-- A run in the chosen order. -/
inductive DRun (E : Env) (ih : Runner) (cx : Cx) (keep : Bool) (ops : List Oper) : List Nat → Fr → AH → Fr → AH → Prop
  | nil {tm : Fr} {h : AH} : DRun E ih cx keep ops [] tm h tm h
  | soft {i : Nat} {r : List Nat} {o : Oper} {tm tm' tm2 : Fr} {h h' h2 : AH} {v : Value} : lget ops i = some o → wantedA cx ops o.guard tm = some true → cls o.op ≠ .loud → aOp E cx o.op tm h = some (v, h') →
      putD cx tm o.dst v = some tm' → (cls o.op = .reads → veq v v = true) → (cls o.op = .makes → oeq (h'.get h.size) (h'.get h.size) = true) → DRun E ih cx keep ops r tm' h' tm2 h2 → DRun E ih cx keep ops (i :: r) tm h tm2 h2
  | loud {i : Nat} {r : List Nat} {o : Oper} {tm tm' tm2 : Fr} {h h' h2 : AH} {v : Value} : lget ops i = some o → wantedA cx ops o.guard tm = some true → cls o.op = .loud → aAny E ih cx o.op tm h = some (v, h') →
      putD cx tm o.dst v = some tm' → h.size ≤ h'.size → h'.WF → (keep = true → Keeps h h') → DRun E ih cx keep ops r tm' h' tm2 h2 → DRun E ih cx keep ops (i :: r) tm h tm2 h2
  | off {i : Nat} {r : List Nat} {o : Oper} {tm tm' tm2 : Fr} {h h2 : AH} : lget ops i = some o → wantedA cx ops o.guard tm = some false →
      putD cx tm o.dst undef = some tm' → DRun E ih cx keep ops r tm' h tm2 h2 → DRun E ih cx keep ops (i :: r) tm h tm2 h2

/-- What holds of an entry at the heaps that were and are. -/
def EntK (E : Env) (cx : Cx) (keep : Bool) (Hs : List AH) (x : Ent) : Prop :=
  x.ran = true →
    (cls x.o.op = .reads → veq x.v x.v = true ∧ ∀ j H, x.m ≤ j → (keep = true ∨ j = x.m) → Hs[j]? = some H → aOp E cx x.o.op x.tm H = some (x.v, H)) ∧
    (cls x.o.op = .makes → ∃ id o, x.made = some (id, o) ∧ oeq o o = true ∧ (∃ q, o = some q) ∧ ∀ j H, x.m ≤ j → (keep = true ∨ j = x.m) → Hs[j]? = some H → id < H.size ∧ H.get id = o)
structure LogK (E : Env) (cx : Cx) (keep : Bool) (ops : List Oper) (s : DSt) : Prop where
  wf : s.h.WF
  len : s.hs.length = s.m
  cnt : s.m = loudOf (fun _ => true) s.log
  ents : ∀ x ∈ s.log, lget ops x.i = some x.o ∧ x.m ≤ s.m ∧ EntK E cx keep (s.h :: s.hs).reverse x
  ms : ∀ post x pre, s.log = post ++ x :: pre → x.m = loudOf (fun _ => true) pre
theorem LogK.add {cx : Cx} {keep : Bool} {ops : List Oper} {tm tm' : Fr} {h h' : AH} {hs hs' : List AH} {m m' : Nat} {log : List Ent} {x : Ent} (k : LogK E cx keep ops ⟨tm, h, hs, m, log⟩) (hw : h'.WF) (hlen : hs'.length = m')
    (hx : lget ops x.i = some x.o) (hm : x.m = m) (hm' : m' = loudOf (fun _ => true) (x :: log)) (hle : m ≤ m') (hold : ∀ y ∈ log, EntK E cx keep (h :: hs).reverse y → y.m ≤ m → EntK E cx keep (h' :: hs').reverse y) (hnew : EntK E cx keep (h' :: hs').reverse x) :
    LogK E cx keep ops ⟨tm', h', hs', m', x :: log⟩ where
  wf := hw
  len := hlen
  cnt := hm'
  ents := fun y hy => by
    rcases List.mem_cons.1 hy with rfl | hy
    · exact ⟨hx, by rw [hm]; exact hle, hnew⟩
    · obtain ⟨h1, h2, h3⟩ := k.ents y hy
      exact ⟨h1, Nat.le_trans h2 hle, hold y hy h3 h2⟩
  ms := fun post y pre e => by
    cases post with
    | nil =>
      simp only [List.nil_append, List.cons.injEq] at e
      obtain ⟨rfl, rfl⟩ := e
      rw [hm]; exact k.cnt
    | cons z post =>
      simp only [List.cons_append, List.cons.injEq] at e
      exact k.ms post y pre e.2
theorem EntK.keeps {cx : Cx} {keep : Bool} {hs : List AH} {h h' : AH} {x : Ent} (k : EntK E cx keep (h :: hs).reverse x) (hk : Keeps h h') (hsz : h.size ≤ h'.size) : EntK E cx keep (h' :: hs).reverse x := fun hr => by
  obtain ⟨k1, k2⟩ := k hr
  have cases_ : ∀ (j : Nat) (H : AH), (h' :: hs).reverse[j]? = some H → ((h :: hs).reverse[j]? = some H) ∨ (H = h' ∧ (h :: hs).reverse[j]? = some h) := fun j H e => by
    rw [rev_last] at e ⊢
    by_cases c : j < hs.length
    · rw [if_pos c] at e ⊢; exact .inl e
    · rw [if_neg c] at e
      by_cases d : j = hs.length
      · rw [if_pos d] at e; cases e
        refine .inr ⟨rfl, ?_⟩
        rw [if_neg c, if_pos d]
      · rw [if_neg d] at e; cases e
  refine ⟨fun hc => ⟨(k1 hc).1, fun j H h1 h2 e => ?_⟩, fun hc => ?_⟩
  · rcases cases_ j H e with e1 | ⟨rfl, e1⟩
    · exact (k1 hc).2 j H h1 h2 e1
    · exact aOp_keep hc hk ((k1 hc).2 j h h1 h2 e1)
  · obtain ⟨id, o, h3, h4, ⟨q, hq⟩, h5⟩ := k2 hc
    refine ⟨id, o, h3, h4, ⟨q, hq⟩, fun j H h1 h2 e => ?_⟩
    rcases cases_ j H e with e1 | ⟨rfl, e1⟩
    · exact h5 j H h1 h2 e1
    · obtain ⟨h6, h7⟩ := h5 j h h1 h2 e1
      exact ⟨Nat.lt_of_lt_of_le h6 hsz, by rw [hq] at h7 ⊢; exact hk _ _ h7⟩
theorem EntK.loud {cx : Cx} {keep : Bool} {hs : List AH} {h h' : AH} {x : Ent} (k : EntK E cx keep (h :: hs).reverse x) (hm : x.m ≤ hs.length) (hk : keep = true → Keeps h h') (hsz : h.size ≤ h'.size) : EntK E cx keep (h' :: h :: hs).reverse x := fun hr => by
  obtain ⟨k1, k2⟩ := k hr
  have cases_ : ∀ (j : Nat) (H : AH), x.m ≤ j → (keep = true ∨ j = x.m) → (h' :: h :: hs).reverse[j]? = some H → ((h :: hs).reverse[j]? = some H) ∨ (keep = true ∧ H = h' ∧ x.m ≤ hs.length ∧ (h :: hs).reverse[hs.length]? = some h) := fun j H h1 h2 e => by
    rw [rev_last] at e
    by_cases c : j < (h :: hs).length
    · rw [if_pos c] at e; exact .inl e
    · rw [if_neg c] at e
      by_cases d : j = (h :: hs).length
      · rw [if_pos d] at e; cases e
        rcases h2 with h2 | h2
        · exact .inr ⟨h2, rfl, hm, by rw [rev_last, if_neg (by omega), if_pos rfl]⟩
        · simp at d; omega
      · rw [if_neg d] at e; cases e
  refine ⟨fun hc => ⟨(k1 hc).1, fun j H h1 h2 e => ?_⟩, fun hc => ?_⟩
  · rcases cases_ j H h1 h2 e with e1 | ⟨hkp, rfl, hm2, e1⟩
    · exact (k1 hc).2 j H h1 h2 e1
    · exact aOp_keep hc (hk hkp) ((k1 hc).2 _ h hm2 (.inl hkp) e1)
  · obtain ⟨id, o, h3, h4, ⟨q, hq⟩, h5⟩ := k2 hc
    refine ⟨id, o, h3, h4, ⟨q, hq⟩, fun j H h1 h2 e => ?_⟩
    rcases cases_ j H h1 h2 e with e1 | ⟨hkp, rfl, hm2, e1⟩
    · exact h5 j H h1 h2 e1
    · obtain ⟨h6, h7⟩ := h5 _ h hm2 (.inl hkp) e1
      exact ⟨Nat.lt_of_lt_of_le h6 hsz, by rw [hq] at h7 ⊢; exact hk hkp _ _ h7⟩
theorem DRun_draw {ih : Runner} {cx : Cx} {keep : Bool} {ops : List Oper} {l : List Nat} {tm tm2 : Fr} {h h2 : AH} (d : DRun E ih cx keep ops l tm h tm2 h2) : ∀ {hs : List AH} {m : Nat} {log : List Ent}, LogK E cx keep ops ⟨tm, h, hs, m, log⟩ →
    ∃ hs' m' log', aDraw E ih cx ops l ⟨tm, h, hs, m, log⟩ = some ⟨tm2, h2, hs', m', log'⟩ ∧ LogK E cx keep ops ⟨tm2, h2, hs', m', log'⟩ ∧ log'.map (·.i) = l.reverse ++ log.map (·.i) := by
  induction d with
  | nil => intro hs m log k; exact ⟨hs, m, log, rfl, k, by simp⟩
  | soft hi hw hc ho hp hv hmk _ il =>
    rename_i i r o tm tm' tm2 h h' h2 v _
    intro hs m log k
    have hlen := k.len
    have hcnt := k.cnt
    simp only at hlen hcnt
    have hany : aAny E ih cx o.op tm h = some (v, h') := by rw [aAny_calm hc]; exact ho
    cases hcc : cls o.op with
    | loud => exact absurd hcc hc
    | calm =>
      obtain rfl : h' = h := by have := calm_heap hcc ho h; rw [this] at ho; cases ho; rfl
      have k2 : LogK E cx keep ops ⟨tm', h', hs, m, ⟨i, o, tm, true, v, m, none, h'.size⟩ :: log⟩ :=
        k.add k.wf hlen hi rfl (by simp only [loudOf, hcc]; simpa using hcnt) (Nat.le_refl _) (fun y _ hy _ => hy) (fun _ => ⟨fun e => (by simp only at e; rw [hcc] at e; cases e), fun e => (by simp only at e; rw [hcc] at e; cases e)⟩)
      obtain ⟨hs', m', log', e1, e2, e3⟩ := il k2
      exact ⟨hs', m', log', by simp only [aDraw, hi, hw, hany, hp, hcc]; exact e1, e2, by rw [e3]; simp⟩
    | reads =>
      obtain rfl : h' = h := reads_heap hcc ho
      have k2 : LogK E cx keep ops ⟨tm', h', hs, m, ⟨i, o, tm, true, v, m, none, h'.size⟩ :: log⟩ :=
        k.add k.wf hlen hi rfl (by simp only [loudOf, hcc]; simpa using hcnt) (Nat.le_refl _) (fun y _ hy _ => hy) (fun _ => ⟨fun _ => ⟨hv hcc, fun j H h1 _ e => by
          simp only at h1
          rw [rev_last, if_neg (by omega)] at e
          split at e
          · cases e; exact ho
          · cases e⟩, fun e => (by simp only at e; rw [hcc] at e; cases e)⟩)
      obtain ⟨hs', m', log', e1, e2, e3⟩ := il k2
      exact ⟨hs', m', log', by simp only [aDraw, hi, hw, hany, hp, hcc]; exact e1, e2, by rw [e3]; simp⟩
    | makes =>
      obtain ⟨ob, hpush⟩ := makes_push hcc ho
      have hk := keeps_push k.wf hpush
      have hsz := push_size hpush
      have hget : h'.get h.size = some ob := by rw [AH.get_push hpush, if_pos rfl]
      have k2 : LogK E cx keep ops ⟨tm', h', hs, m, ⟨i, o, tm, true, v, m, some (h.size, h'.get h.size), h.size⟩ :: log⟩ :=
        k.add (k.wf.push hpush) hlen hi rfl (by simp only [loudOf, hcc]; simpa using hcnt) (Nat.le_refl _) (fun y _ hy _ => hy.keeps hk (by omega)) (fun _ => ⟨fun e => (by simp only at e; rw [hcc] at e; cases e), fun _ => ⟨h.size, _, rfl, hmk hcc, ⟨ob, hget⟩, fun j H h1 _ e => by
          simp only at h1
          rw [rev_last, if_neg (by omega)] at e
          split at e
          · cases e; exact ⟨by omega, rfl⟩
          · cases e⟩⟩)
      obtain ⟨hs', m', log', e1, e2, e3⟩ := il k2
      exact ⟨hs', m', log', by simp only [aDraw, hi, hw, hany, hp, hcc]; exact e1, e2, by rw [e3]; simp⟩
  | loud hi hw hc hany hp hsz hwf hk _ il =>
    rename_i i r o tm tm' tm2 h h' h2 v _
    intro hs m log k
    have hlen := k.len
    have hcnt := k.cnt
    simp only at hlen hcnt
    have hble : Nat.ble h.size h'.size = true := Nat.ble_eq_true_of_le hsz
    have k2 : LogK E cx keep ops ⟨tm', h', h :: hs, m + 1, ⟨i, o, tm, true, v, m, none, h.size⟩ :: log⟩ :=
      k.add hwf (by simp [hlen]) hi rfl (by simp only [loudOf, hc]; simp [← hcnt, Nat.add_comm]) (Nat.le_succ _) (fun y _ hy hle => hy.loud (by omega) hk hsz) (fun _ => ⟨fun e => (by simp only at e; rw [hc] at e; cases e), fun e => (by simp only at e; rw [hc] at e; cases e)⟩)
    obtain ⟨hs', m', log', e1, e2, e3⟩ := il k2
    exact ⟨hs', m', log', by simp only [aDraw, hi, hw, hany, hp, hc, hble, cond_true]; exact e1, e2, by rw [e3]; simp⟩
  | off hi hw hp _ il =>
    rename_i i r o tm tm' tm2 h h2 _
    intro hs m log k
    have hlen := k.len
    have hcnt := k.cnt
    simp only at hlen hcnt
    have k2 : LogK E cx keep ops ⟨tm', h, hs, m, ⟨i, o, tm, false, undef, m, none, h.size⟩ :: log⟩ :=
      k.add k.wf hlen hi rfl (by simp only [loudOf]; simpa using hcnt) (Nat.le_refl _) (fun y _ hy _ => hy) (fun e => by cases e)
    obtain ⟨hs', m', log', e1, e2, e3⟩ := il k2
    exact ⟨hs', m', log', by simp only [aDraw, hi, hw, hp]; exact e1, e2, by rw [e3]; simp⟩
end Go.RA
namespace Go.RA
variable {E : Env}

theorem ltake_ok {α : Type} : ∀ {n : Nat} {xs : List α}, n ≤ xs.length → ltake n xs = some (xs.take n) := by
  intro n
  induction n with
  | zero => intro xs _; simp [ltake]
  | succ n ih =>
    intro xs h
    cases xs with
    | nil => simp at h
    | cons x xs => simp only [ltake, ih (by simpa using h), Option.map_some, List.take_succ_cons]
theorem sameAt_of {cx : Cx} {x : Ent} (hv : veq x.v x.v = true) : ∀ {l : List AH}, (∀ H ∈ l, aOp E cx x.o.op x.tm H = some (x.v, H)) → sameAt E cx x l = true := by
  intro l
  induction l with
  | nil => intro _; rfl
  | cons H l ih => intro h; simp only [sameAt, h H (by simp), hv, ih fun K hK => h K (by simp [hK]), Bool.and_self]
theorem madeAt_of {id : Nat} {o : Option AObj} (ho : oeq o o = true) : ∀ {l : List AH}, (∀ H ∈ l, id < H.size ∧ H.get id = o) → madeAt id o l = true := by
  intro l
  induction l with
  | nil => intro _; rfl
  | cons H l ih =>
    intro h
    obtain ⟨h1, h2⟩ := h H (by simp)
    have hb : Nat.blt id H.size = true := by rw [Nat.blt_eq]; exact h1
    simp only [madeAt, h2, ho, hb, ih fun K hK => h K (by simp [hK]), Bool.and_self]
theorem entsOK_of {cx : Cx} {b : List Nat} {hs : List AH} {k : Nat} {all : List Ent} : ∀ {l : List Ent}, (∀ x ∈ l, entOK E cx b hs k all x = true) → entsOK E cx b hs k all l = true := by
  intro l
  induction l with
  | nil => intro _; rfl
  | cons x l ih => intro h; simp only [entsOK, h x (by simp), ih fun y hy => h y (by simp [hy]), Bool.and_self]
theorem loudOf_true_congr {p : Nat → Bool} {l : List Ent} (h : ∀ x ∈ l, x.ran = true → cls x.o.op = .loud → p x.i = true) : loudOf p l = loudOf (fun _ => true) l := loudOf_congr h
theorem ents_ok {cx : Cx} {keep : Bool} {ops : List Oper} {b ord : List Nat} {tm : Fr} {h : AH} {hs : List AH} {m : Nat} {log : List Ent} (k : LogK E cx keep ops ⟨tm, h, hs, m, log⟩) (hl : log.map (·.i) = ord.reverse)
    (hst : statOK keep b ops [] ord = true) : entsOK E cx b (h :: hs).reverse m log log = true := by
  refine entsOK_of fun x hx => ?_
  obtain ⟨post, pre, e⟩ := List.append_of_mem hx
  have hord : ord = (pre.map (·.i)).reverse ++ x.i :: (post.map (·.i)).reverse := by
    have : ord = (log.map (·.i)).reverse := by rw [hl, List.reverse_reverse]
    rw [this, e]; simp
  obtain ⟨hop, hxm, hek⟩ := k.ents x hx
  have hms := k.ms post x pre e
  have hcnt := k.cnt
  have hlen := k.len
  simp only at hxm hek hcnt hlen
  have loud : ∀ y ∈ log, cls y.o.op = .loud → isLoud ops y.i = true := fun y hy hc => by
    have h1 := (k.ents y hy).1
    simp [isLoud, h1, hc]
  unfold entOK
  cases hr : x.ran with
  | false => simp
  | true =>
    simp only [Bool.not_true, Bool.false_eq_true, if_false]
    have main : cls x.o.op = .reads ∨ cls x.o.op = .makes → (x.m == loudOf (fun j => bitOf b x.i j) log) = true ∧
        ∃ l, ltake (m + 1 - loudOf (fun j => bitOf b j x.i) log - x.m) (ldrop x.m (h :: hs).reverse) = some l ∧ ∀ H ∈ l, ∃ j, x.m ≤ j ∧ (keep = true ∨ j = x.m) ∧ (h :: hs).reverse[j]? = some H := by
      intro hc
      have hnl : cls x.o.op ≠ .loud := by rcases hc with c | c <;> rw [c] <;> simp
      have hsoft : isSoft ops x.i = true := by
        unfold isSoft; rw [hop]
        rcases hc with c | c <;> simp [c]
      obtain ⟨h1, _, h3⟩ := statOK_split hst hord hsoft
      have hx0 : ∀ p : Nat → Bool, loudOf p (x :: pre) = loudOf p pre := fun p => by
        simp only [loudOf]
        rw [if_neg (by simp [hnl])]; simp
      have a1 : loudOf (fun j => bitOf b x.i j) log = x.m := by
        rw [e, loudOf_append, hx0, hms]
        rw [loudOf_zero (p := fun j => bitOf b x.i j) (l := post) fun y hy _ hyl => (h3 y.i (by simpa using ⟨y, hy, rfl⟩) (loud y (by rw [e]; simp [hy]) hyl)).1]
        rw [loudOf_true_congr (l := pre) fun y hy _ hyl => (h1 y.i (by simpa using ⟨y, hy, rfl⟩) (loud y (by rw [e]; simp [hy]) hyl)).1]
        omega
      have a2 : loudOf (fun j => bitOf b j x.i) log = loudOf (fun j => bitOf b j x.i) post := by
        rw [e, loudOf_append, hx0]
        rw [loudOf_zero (p := fun j => bitOf b j x.i) (l := pre) fun y hy _ hyl => (h1 y.i (by simpa using ⟨y, hy, rfl⟩) (loud y (by rw [e]; simp [hy]) hyl)).2]
        omega
      have a3 : m = loudOf (fun _ => true) post + x.m := by
        rw [hcnt, e, loudOf_append, hx0, hms]
      have hdl : (ldrop x.m (h :: hs).reverse).length = m + 1 - x.m := by
        rw [ldrop_eq]; simp [hlen]
      refine ⟨by rw [a1]; simp, _, ltake_ok (by rw [hdl]; omega), fun H hH => ?_⟩
      rw [ldrop_eq] at hH
      obtain ⟨i, hi⟩ := List.mem_iff_getElem?.1 hH
      have hin := (List.getElem?_eq_some_iff.1 hi).1
      rw [List.length_take] at hin
      rw [List.getElem?_take_of_lt (by omega), List.getElem?_drop] at hi
      refine ⟨x.m + i, by omega, ?_, hi⟩
      cases hk : keep with
      | true => exact .inl rfl
      | false =>
        refine .inr ?_
        have a4 : loudOf (fun j => bitOf b j x.i) post = loudOf (fun _ => true) post := loudOf_true_congr fun y hy _ hyl => by
          rcases (h3 y.i (by simpa using ⟨y, hy, rfl⟩) (loud y (by rw [e]; simp [hy]) hyl)).2 with h5 | h5
          · rw [hk] at h5; cases h5
          · exact h5
        omega
    obtain ⟨hr1, hr2⟩ := hek hr
    cases hc : cls x.o.op with
    | loud => rfl
    | calm => rfl
    | reads =>
      obtain ⟨h1, l, h2, h3⟩ := main (.inl hc)
      obtain ⟨h4, h5⟩ := hr1 hc
      simp only [h1, h2, Bool.true_and]
      exact sameAt_of h4 fun H hH => by
        obtain ⟨j, h6, h7, h8⟩ := h3 H hH
        exact h5 j H h6 h7 h8
    | makes =>
      obtain ⟨h1, l, h2, h3⟩ := main (.inr hc)
      obtain ⟨id, o, h4, h5, _, h9⟩ := hr2 hc
      simp only [h1, h2, h4, Bool.true_and]
      exact madeAt_of h5 fun H hH => by
        obtain ⟨j, h6, h7, h8⟩ := h3 H hH
        exact h9 j H h6 h7 h8
/-- What is to be known of a region whose order is drawn. -/
def regStat (keep : Bool) (ops : Array Oper) : Bool := regOK ops && orderOK (Region.before ops).toList ops.toList.length 0 (orderOf ops) && statOK keep (Region.before ops).toList ops.toList [] (orderOf ops)
/-- A run in the chosen order, from some fuel on. -/
def Dr (E : Env) (cx : Cx) (keep : Bool) (ops : List Oper) (l : List Nat) (tm : Fr) (h : AH) (Q : Fr → AH → Prop) : Prop :=
  ∃ N tm' h', (∀ m, N ≤ m → DRun E (aRun E m) cx keep ops l tm h tm' h') ∧ Q tm' h'
theorem Rs.draw {cx : Cx} {id : Nat} {ops : Array Oper} {ord : List Nat} {st : ASt} {Q : AExit → ASt → Prop} (keep : Bool) (hw : st.h.WF) (hs : regStat keep ops = true) (ho : orderOf ops = ord)
    (k : Dr E cx keep ops.toList ord st.tm.cut st.h fun tm' h' => Q .normal ⟨tm', st.df, h'⟩) : Rs E cx (.region id ops true) st Q := by
  obtain ⟨tm, df, h⟩ := st
  obtain ⟨N, tm', h', h1, h2⟩ := k
  refine ⟨N, .normal, ⟨tm', df, h'⟩, fun m hm => ?_, h2⟩
  simp only [regStat, Bool.and_eq_true] at hs
  have start : LogK E cx keep ops.toList ⟨tm.cut, h, [], 0, []⟩ := ⟨hw, rfl, rfl, fun _ hx => (by cases hx), fun post x pre e => (by cases post <;> cases e)⟩
  obtain ⟨hs', m', log', e1, e2, e3⟩ := DRun_draw (h1 m hm) start
  have e4 := ents_ok e2 (by simpa using e3) (by rw [← ho]; exact hs.2)
  subst ho
  simp only [aCode, cutSt, aRegion, hs.1.1, hs.1.2, Bool.and_self, cond_true, e1, e4]
theorem Dr.nil {cx : Cx} {keep : Bool} {ops : List Oper} {tm : Fr} {h : AH} {Q : Fr → AH → Prop} (k : Q tm h) : Dr E cx keep ops [] tm h Q := ⟨0, _, _, fun _ _ => .nil, k⟩
theorem Dr.op {cx : Cx} {keep : Bool} {ops : List Oper} {i : Nat} {r : List Nat} {o : Oper} {tm tm' : Fr} {h h' : AH} {v : Value} {Q : Fr → AH → Prop} (hi : lget ops i = some o) (hw : wantedA cx ops o.guard tm = some true) (hc : cls o.op ≠ .loud) (ho : aOp E cx o.op tm h = some (v, h'))
    (hp : putD cx tm o.dst v = some tm') (hv : cls o.op = .reads → veq v v = true) (hm : cls o.op = .makes → oeq (h'.get h.size) (h'.get h.size) = true) (k : Dr E cx keep ops r tm' h' Q) : Dr E cx keep ops (i :: r) tm h Q := by
  obtain ⟨N, t2, h2, k1, k2⟩ := k
  exact ⟨N, t2, h2, fun m hm' => .soft hi hw hc ho hp hv hm (k1 m hm'), k2⟩
theorem Dr.off {cx : Cx} {keep : Bool} {ops : List Oper} {i : Nat} {r : List Nat} {o : Oper} {tm tm' : Fr} {h : AH} {Q : Fr → AH → Prop} (hi : lget ops i = some o) (hw : wantedA cx ops o.guard tm = some false)
    (hp : putD cx tm o.dst undef = some tm') (k : Dr E cx keep ops r tm' h Q) : Dr E cx keep ops (i :: r) tm h Q := by
  obtain ⟨N, t2, h2, k1, k2⟩ := k
  exact ⟨N, t2, h2, fun m hm' => .off hi hw hp (k1 m hm'), k2⟩
/-- A loud one that is no call. -/
theorem Dr.act {cx : Cx} {keep : Bool} {ops : List Oper} {i : Nat} {r : List Nat} {o : Oper} {tm tm' : Fr} {h h' : AH} {v : Value} {Q : Fr → AH → Prop} (hi : lget ops i = some o) (hw : wantedA cx ops o.guard tm = some true) (hc : cls o.op = .loud) (ho : ∀ ih, aAny E ih cx o.op tm h = some (v, h'))
    (hp : putD cx tm o.dst v = some tm') (hsz : h.size ≤ h'.size) (hwf : h'.WF) (hk : keep = true → Keeps h h') (k : Dr E cx keep ops r tm' h' Q) : Dr E cx keep ops (i :: r) tm h Q := by
  obtain ⟨N, t2, h2, k1, k2⟩ := k
  exact ⟨N, t2, h2, fun m hm' => .loud hi hw hc (ho _) hp hsz hwf hk (k1 m hm'), k2⟩
theorem Dr.call {cx : Cx} {keep : Bool} {ops : List Oper} {i : Nat} {r : List Nat} {o : Oper} {tm : Fr} {h : AH} {f : Operand} {args : Array Operand} {fv : Value} {vs : List Value} {Q : Fr → AH → Prop} (hi : lget ops i = some o) (hw : wantedA cx ops o.guard tm = some true) (hc : callOf o.op = some (f, args))
    (hf : opnd cx tm f = some fv) (hv : opnds cx tm args.toList = some vs)
    (k : Cv E fv vs h fun v h' => h.size ≤ h'.size ∧ h'.WF ∧ (keep = true → Keeps h h') ∧ ∃ tm', putD cx tm o.dst v = some tm' ∧ Dr E cx keep ops r tm' h' Q) : Dr E cx keep ops (i :: r) tm h Q := by
  obtain ⟨N, v, h', k1, hsz, hwf, hk, tm', hp, M, t2, h2, k2, k3⟩ := k
  have hl : cls o.op = .loud := by
    unfold callOf at hc
    split at hc
    · rename_i e; rw [e]; rfl
    · cases hc
  exact ⟨max N M, t2, h2, fun m hm => .loud hi hw hl (by rw [aAny_call hc tm h hf hv]; exact k1 m (by omega)) hp hsz hwf hk (k2 m (by omega)), k3⟩
end Go.RA
namespace Go.RA
variable {E : Env}

/-! ### Rules as a walk uses them -/
theorem Rs.seqA {cx : Cx} {a b c : Code} {st : ASt} {Q : AExit → ASt → Prop} (k : Rs E cx (.seq a (.seq b c)) st Q) : Rs E cx (.seq (.seq a b) c) st Q := by
  obtain ⟨N, x, st', h1, h2⟩ := k
  refine ⟨N, x, st', fun m hm => ?_, h2⟩
  rw [← h1 m hm]
  simp only [aCode]
  cases aCode E (aRun E m) cx a st with
  | none => rfl
  | some y => obtain ⟨x, s⟩ := y; cases x <;> rfl
theorem Rs.seqRegion {cx : Cx} {id : Nat} {ops : Array Oper} {b : Code} {tm : Fr} {df : List Nat} {h : AH} {Q : AExit → ASt → Prop} (k : Sq E cx ops.toList ops.toList tm.cut h fun tm' h' => Rs E cx b ⟨tm', df, h'⟩ Q) : Rs E cx (.seq (.region id ops false) b) ⟨tm, df, h⟩ Q :=
  Rs.seq (Rs.region k)
theorem Rs.lastRegion {cx : Cx} {id : Nat} {ops : Array Oper} {tm : Fr} {df : List Nat} {h : AH} {Q : AExit → ASt → Prop} (k : Sq E cx ops.toList ops.toList tm.cut h fun tm' h' => Q .normal ⟨tm', df, h'⟩) : Rs E cx (.region id ops false) ⟨tm, df, h⟩ Q := Rs.region k
theorem Rs.seqDraw {cx : Cx} {id : Nat} {ops : Array Oper} {ord : List Nat} {b : Code} {tm : Fr} {df : List Nat} {h : AH} {Q : AExit → ASt → Prop} (keep : Bool) (hw : h.WF) (hs : regStat keep ops = true) (ho : orderOf ops = ord)
    (k : Dr E cx keep ops.toList ord tm.cut h fun tm' h' => Rs E cx b ⟨tm', df, h'⟩ Q) : Rs E cx (.seq (.region id ops true) b) ⟨tm, df, h⟩ Q :=
  Rs.seq (Rs.draw keep hw hs ho k)
theorem Rs.lastDraw {cx : Cx} {id : Nat} {ops : Array Oper} {ord : List Nat} {tm : Fr} {df : List Nat} {h : AH} {Q : AExit → ASt → Prop} (keep : Bool) (hw : h.WF) (hs : regStat keep ops = true) (ho : orderOf ops = ord)
    (k : Dr E cx keep ops.toList ord tm.cut h fun tm' h' => Q .normal ⟨tm', df, h'⟩) : Rs E cx (.region id ops true) ⟨tm, df, h⟩ Q := Rs.draw keep hw hs ho k
theorem Rs.seqSkip {cx : Cx} {b : Code} {st : ASt} {Q : AExit → ASt → Prop} (k : Rs E cx b st Q) : Rs E cx (.seq .skip b) st Q := Rs.seq (Rs.skip k)
theorem Rs.seqRet {cx : Cx} {b : Code} {st : ASt} {Q : AExit → ASt → Prop} (k : Q .ret st) : Rs E cx (.seq .ret b) st Q := Rs.seq (Rs.ret k)
theorem Rs.seqExit {cx : Cx} {b : Code} {i : Nat} {st : ASt} {Q : AExit → ASt → Prop} (k : Q (.exit i) st) : Rs E cx (.seq (.exit i) b) st Q := Rs.seq (Rs.exit k)
theorem Rs.seqCond {cx : Cx} {c : Operand} {a b d : Code} {st : ASt} {Q : AExit → ASt → Prop} {t : Bool} (hc : opnd cx st.tm c = some (.bool t)) (ha : t = true → Rs E cx (.seq a d) st Q) (hb : t = false → Rs E cx (.seq b d) st Q) : Rs E cx (.seq (.cond c a b) d) st Q := by
  cases t with
  | true =>
    obtain ⟨N, x, st', h1, h2⟩ := ha rfl
    exact ⟨N, x, st', fun m hm => by rw [← h1 m hm]; simp only [aCode, hc], h2⟩
  | false =>
    obtain ⟨N, x, st', h1, h2⟩ := hb rfl
    exact ⟨N, x, st', fun m hm => by rw [← h1 m hm]; simp only [aCode, hc], h2⟩
theorem Rs.seqBlock {cx : Cx} {id : Nat} {c b : Code} {st : ASt} {Q : AExit → ASt → Prop} (k : Rs E cx c st (blockQ id (thenQ E cx b Q))) : Rs E cx (.seq (.block id c) b) st Q := Rs.seq (Rs.block k)
/-- A loop and what is behind it. -/
theorem Rs.seqLoop {cx : Cx} {id : Nat} {c rest : Code} {Q : AExit → ASt → Prop} (I : Nat → ASt → Prop) (P : ASt → Prop) (hI : ∀ k st, I k st → Rs E cx c st fun x st' => match x with
    | .normal => ∃ k', k' < k ∧ I k' st'
    | .exit i => i = id ∧ P st'
    | .goto l => Q (.goto l) st'
    | .ret => Q .ret st') (hP : ∀ st, P st → Rs E cx rest st Q) (k : Nat) (st : ASt) (h : I k st) : Rs E cx (.seq (.block id (.loop c)) rest) st Q := by
  refine Rs.seqBlock (Rs.loopI I (fun k st h => (hI k st h).mono fun x st' hx => ?_) k st h)
  cases x with
  | normal => exact hx
  | exit i =>
    obtain ⟨rfl, hp⟩ := hx
    show (bif Nat.beq i i then thenQ E cx rest Q .normal st' else thenQ E cx rest Q (.exit i) st')
    rw [show Nat.beq i i = true by simp]
    exact hP st' hp
  | goto l => exact hx
  | ret => exact hx
/-- A loop that nothing is behind. -/
theorem Rs.lastLoop {cx : Cx} {id : Nat} {c : Code} {Q : AExit → ASt → Prop} (I : Nat → ASt → Prop) (P : ASt → Prop) (hI : ∀ k st, I k st → Rs E cx c st fun x st' => match x with
    | .normal => ∃ k', k' < k ∧ I k' st'
    | .exit i => i = id ∧ P st'
    | .goto l => Q (.goto l) st'
    | .ret => Q .ret st') (hP : ∀ st, P st → Q .normal st) (k : Nat) (st : ASt) (h : I k st) : Rs E cx (.block id (.loop c)) st Q := by
  refine Rs.block (Rs.loopI I (fun k st h => (hI k st h).mono fun x st' hx => ?_) k st h)
  cases x with
  | normal => exact hx
  | exit i =>
    obtain ⟨rfl, hp⟩ := hx
    show (bif Nat.beq i i then Q .normal st' else Q (.exit i) st')
    rw [show Nat.beq i i = true by simp]
    exact hP st' hp
  | goto l => exact hx
  | ret => exact hx
theorem Sq.mono {cx : Cx} {all ops : List Oper} {tm : Fr} {h : AH} {Q R : Fr → AH → Prop} (k : Sq E cx all ops tm h Q) (hr : ∀ tm' h', Q tm' h' → R tm' h') : Sq E cx all ops tm h R :=
  let ⟨N, a, b, h1, h2⟩ := k; ⟨N, a, b, h1, hr _ _ h2⟩
theorem Dr.mono {cx : Cx} {keep : Bool} {ops : List Oper} {l : List Nat} {tm : Fr} {h : AH} {Q R : Fr → AH → Prop} (k : Dr E cx keep ops l tm h Q) (hr : ∀ tm' h', Q tm' h' → R tm' h') : Dr E cx keep ops l tm h R :=
  let ⟨N, a, b, h1, h2⟩ := k; ⟨N, a, b, h1, hr _ _ h2⟩
end Go.RA
