/-
  What the sort of rows computes, over the evaluator. No condition.
-/
import Derived.Test.YtcbdnkbdpdppcaaGreatDoorSd2
namespace Go.RA
set_option maxRecDepth 100000

theorem ieq_o1 (a : Nat) : ieq (Int.ofNat a) 1 = decide (a = 1) := ieq_nat a 1
theorem shU_0 (f : Nat → Pr) (a : Nat) : shU f a a = f := by
  funext p
  unfold shU
  rw [if_neg (show ¬ (a ≤ p ∧ p < a) by omega)]
  split
  · rename_i e; rw [e]
  · rfl
theorem shD_0 (f : Nat → Pr) (m : Nat) : shD f m m = f := by
  funext p
  unfold shD
  rw [if_neg (show ¬ (m < p ∧ p ≤ m) by omega)]
  split
  · rename_i e; rw [e]
  · rfl
/-- What the contract of symMerge says. -/
def MergeC (n : Nat) : Prop := ∀ {h : AH} {bk N a m b : Nat} {f : Nat → Pr}, b - a ≤ n → h.WF → DV h bk N f → N < 1000000 → a < m → m < b → b ≤ N → Srt a m f → Srt m b f →
    Cl EA 259 [dv bk N, .int .i64 (Int.ofNat a), .int .i64 (Int.ofNat m), .int .i64 (Int.ofNat b), .func (.func 43) #[] #[]] h (fun _ h' => ∃ g, DV h' bk N g ∧ SW a b f g ∧ Srt a b g ∧ KX bk h h')
set_option maxHeartbeats 1000000 in
theorem run259 : ∀ n, MergeC n := by
  intro n
  induction n with
  | zero => intro h bk N a m b f h1 _ _ _ h2 h3; omega
  | succ n ih =>
  intro h bk N a m b f hn w d hN ham hmb hb sl sr
  refine Cl.fn Go.Proofs.Tryz.f259 220 13164839976634628298295110780136696778032692856359452003713154079 [] rfl rfl (by kernel_rfl) rfl rfl (by kernel_rfl) rfl rfl ?_
  repeat (first | with_reducible refine Rs.seqA ?_ | with_reducible refine Rs.seqRegion ?_ | with_reducible refine Rs.seqSkip ?_ | with_reducible refine Rs.lastRegion ?_ | refine Sq.o rfl rfl (fun _ => rfl) rfl ?_ | refine Sq.off rfl rfl ?_ | refine Sq.nil ?_)
  refine Sq.a rfl rfl (op_sub rfl rfl (by omega) (by omega)) rfl ?_
  repeat (first | with_reducible refine Rs.seqA ?_ | with_reducible refine Rs.seqRegion ?_ | with_reducible refine Rs.seqSkip ?_ | with_reducible refine Rs.lastRegion ?_ | refine Sq.o rfl rfl (fun _ => rfl) rfl ?_ | refine Sq.off rfl rfl ?_ | refine Sq.nil ?_)
  by_cases hm1 : m - a = 1
  · have hc : ieq (Int.ofNat (m - a)) 1 = true := by rw [ieq_o1, dec_t hm1]
    refine Rs.seqCond rfl (fun _ => ?_) (fun e => absurd (e.symm.trans hc) (by simp))
    repeat (first | with_reducible refine Rs.seqA ?_ | with_reducible refine Rs.seqRegion ?_ | with_reducible refine Rs.seqSkip ?_ | with_reducible refine Rs.lastRegion ?_ | refine Sq.o rfl rfl (fun _ => rfl) rfl ?_ | refine Sq.off rfl rfl ?_ | refine Sq.nil ?_)
    refine Rs.seqLoop (fun k st => ∃ i j h1 x12 x13 x14 x15 x16 x17 x18 x19 x20 x21 x22 x23 x24 x28 x33 x50 x58 x80 x85 x103 x110 x140 x151 x171 x185 x199 x213 ts, st = ⟨⟨(.cons 0 (dv bk N) (.cons 1 (.int .i64 (Int.ofNat a)) (.cons 2 (.int .i64 (Int.ofNat m)) (.cons 3 (.int .i64 (Int.ofNat b)) (.cons 4 (.func (.func 43) #[] #[]) (.cons 10 (.int .i64 (Int.ofNat i)) (.cons 11 (.int .i64 (Int.ofNat j)) (.cons 12 (x12) (.cons 13 (x13) (.cons 14 (x14) (.cons 15 (x15) (.cons 16 (x16) (.cons 17 (x17) (.cons 18 (x18) (.cons 19 (x19) (.cons 20 (x20) (.cons 21 (x21) (.cons 22 (x22) (.cons 23 (x23) (.cons 24 (x24) (.cons 28 (x28) (.cons 33 (x33) (.cons 50 (x50) (.cons 58 (x58) (.cons 80 (x80) (.cons 85 (x85) (.cons 103 (x103) (.cons 110 (x110) (.cons 140 (x140) (.cons 151 (x151) (.cons 171 (x171) (.cons 185 (x185) (.cons 199 (x199) (.cons 213 (x213) .nil)))))))))))))))))))))))))))))))))), ts⟩, [], h1⟩ ∧ (j - i = k) ∧ (m ≤ i ∧ i ≤ j ∧ j ≤ b) ∧ (∀ k, m ≤ k → k < i → Le (f k) (f a)) ∧ (∀ k, j ≤ k → k < b → Le (f a) (f k)) ∧ (DV h1 bk N f) ∧ (KX bk h h1)) (fun st => ∃ i h1 x11 x12 x13 x14 x15 x16 x17 x18 x19 x20 x21 x22 x23 x24 x28 x33 x50 x58 x80 x85 x103 x110 x140 x151 x171 x185 x199 x213 ts, st = ⟨⟨(.cons 0 (dv bk N) (.cons 1 (.int .i64 (Int.ofNat a)) (.cons 2 (.int .i64 (Int.ofNat m)) (.cons 3 (.int .i64 (Int.ofNat b)) (.cons 4 (.func (.func 43) #[] #[]) (.cons 10 (.int .i64 (Int.ofNat i)) (.cons 11 (x11) (.cons 12 (x12) (.cons 13 (x13) (.cons 14 (x14) (.cons 15 (x15) (.cons 16 (x16) (.cons 17 (x17) (.cons 18 (x18) (.cons 19 (x19) (.cons 20 (x20) (.cons 21 (x21) (.cons 22 (x22) (.cons 23 (x23) (.cons 24 (x24) (.cons 28 (x28) (.cons 33 (x33) (.cons 50 (x50) (.cons 58 (x58) (.cons 80 (x80) (.cons 85 (x85) (.cons 103 (x103) (.cons 110 (x110) (.cons 140 (x140) (.cons 151 (x151) (.cons 171 (x171) (.cons 185 (x185) (.cons 199 (x199) (.cons 213 (x213) .nil)))))))))))))))))))))))))))))))))), ts⟩, [], h1⟩ ∧ (m ≤ i ∧ i ≤ b) ∧ (∀ k, m ≤ k → k < i → Le (f k) (f a)) ∧ (∀ k, i ≤ k → k < b → Le (f a) (f k)) ∧ (DV h1 bk N f) ∧ (KX bk h h1)) ?_ ?_ (b - m) _ ⟨m, b, _, _, _, _, _, _, _, _, _, _, _, _, _, _, _, _, _, _, _, _, _, _, _, _, _, _, _, _, _, rfl, rfl, by omega, (fun k h1 h2 => by omega), (fun k h1 h2 => by omega), d, KX.refl w⟩
    · rintro k st ⟨i, j, h1, x12, x13, x14, x15, x16, x17, x18, x19, x20, x21, x22, x23, x24, x28, x33, x50, x58, x80, x85, x103, x110, x140, x151, x171, x185, x199, x213, ts, rfl, hk, hij, q1, q2, d1, x1⟩
      repeat (first | with_reducible refine Rs.seqA ?_ | with_reducible refine Rs.seqRegion ?_ | with_reducible refine Rs.seqSkip ?_ | with_reducible refine Rs.lastRegion ?_ | refine Sq.o rfl rfl (fun _ => rfl) rfl ?_ | refine Sq.off rfl rfl ?_ | refine Sq.nil ?_)
      (first | rw [ilt_nat] | rw [ilt_oc] | rw [ilt_co] | rw [ilt_cc])
      by_cases hlt : i < j
      · rw [dec_t hlt]
        refine Rs.seqT rfl ?_
        repeat (first | with_reducible refine Rs.seqA ?_ | with_reducible refine Rs.seqRegion ?_ | with_reducible refine Rs.seqSkip ?_ | with_reducible refine Rs.lastRegion ?_ | refine Sq.o rfl rfl (fun _ => rfl) rfl ?_ | refine Sq.off rfl rfl ?_ | refine Sq.nil ?_)
        refine Rs.block ?_
        repeat (first | with_reducible refine Rs.seqA ?_ | with_reducible refine Rs.seqRegion ?_ | with_reducible refine Rs.seqSkip ?_ | with_reducible refine Rs.lastRegion ?_ | refine Sq.o rfl rfl (fun _ => rfl) rfl ?_ | refine Sq.off rfl rfl ?_ | refine Sq.nil ?_)
        refine Sq.a rfl rfl (op_add rfl rfl (by omega)) rfl ?_
        refine Sq.a rfl rfl (op_toU rfl (by omega)) rfl ?_
        refine Sq.a rfl rfl (op_half rfl rfl) rfl ?_
        refine Sq.a rfl rfl (op_toI rfl (by omega)) rfl ?_
        repeat (first | with_reducible refine Rs.seqA ?_ | with_reducible refine Rs.seqRegion ?_ | with_reducible refine Rs.seqSkip ?_ | with_reducible refine Rs.lastRegion ?_ | refine Sq.o rfl rfl (fun _ => rfl) rfl ?_ | refine Sq.off rfl rfl ?_ | refine Sq.nil ?_)
        have r1 := d1.row ((i + j) / 2) (by omega)
        have r2 := d1.row a (by omega)
        refine Rs.seqDraw (ord := [0, 1, 2, 3, 4, 5, 6, 7, 8, 9, 10]) true x1.wf (by kernel_rfl) (by kernel_rfl) ?_
        repeat (first | refine Dr.c rfl rfl rfl rfl rfl rfl ?_ | refine Dr.off rfl rfl rfl ?_)
        refine Dr.o rfl rfl rfl (op_indexAddr rfl rfl (show (i + j) / 2 < N by omega) rfl rfl) rfl ?_
        refine Dr.r rfl rfl rfl (d1.load (show (i + j) / 2 < N by omega) rfl) rfl (veq_row r1.1) ?_
        repeat (first | refine Dr.c rfl rfl rfl rfl rfl rfl ?_ | refine Dr.off rfl rfl rfl ?_)
        refine Dr.o rfl rfl rfl (op_indexAddr rfl rfl (show a < N by omega) rfl rfl) rfl ?_
        refine Dr.r rfl rfl rfl (d1.load (show a < N by omega) rfl) rfl (veq_row r2.1) ?_
        refine Dr.call rfl rfl rfl rfl rfl (Cv.f ((run43 x1.wf r1.1 r2.1 r1.2 r2.2).mono fun v h3 hv => ?_))
        obtain ⟨rfl, g3⟩ := hv
        refine ⟨g3.size, g3.wf, fun _ => g3.keep, _, rfl, ?_⟩
        repeat (first | refine Dr.c rfl rfl rfl rfl rfl rfl ?_ | refine Dr.off rfl rfl rfl ?_)
        refine Dr.nil ?_
        have d3 := d1.keepX g3.keep
        have x3 := x1.trans (g3.kx bk)
        by_cases hlc : cmpR (f ((i + j) / 2)).2 (f a).2 < 0
        · have hc : ilt (cmpR (f ((i + j) / 2)).2 (f a).2) 0 = true := by rw [ilt_dec, dec_t hlc]
          refine Rs.cond rfl (fun _ => ?_) (fun e => absurd (e.symm.trans hc) (by simp))
          repeat (first | with_reducible refine Rs.seqA ?_ | with_reducible refine Rs.seqRegion ?_ | with_reducible refine Rs.seqSkip ?_ | with_reducible refine Rs.lastRegion ?_ | refine Sq.o rfl rfl (fun _ => rfl) rfl ?_ | refine Sq.off rfl rfl ?_ | refine Sq.nil ?_)
          refine Sq.a rfl rfl (op_add (b := 1) rfl rfl (by omega)) rfl ?_
          repeat (first | with_reducible refine Rs.seqA ?_ | with_reducible refine Rs.seqRegion ?_ | with_reducible refine Rs.seqSkip ?_ | with_reducible refine Rs.lastRegion ?_ | refine Sq.o rfl rfl (fun _ => rfl) rfl ?_ | refine Sq.off rfl rfl ?_ | refine Sq.nil ?_)
          exact ⟨j - ((i + j) / 2 + 1), by omega, (i + j) / 2 + 1, j, h3, _, _, _, _, _, _, _, _, _, _, _, _, _, _, _, _, _, _, _, _, _, _, _, _, _, _, _, _, rfl, rfl, by omega, (fun k e1 e2 => by
            by_cases c : k = (i + j) / 2
            · subst c; exact le_of_lt hlc
            · exact (sr k ((i + j) / 2) e1 (by omega) (by omega)).trans (le_of_lt hlc)), q2, d3, x3⟩
        · have hc : ilt (cmpR (f ((i + j) / 2)).2 (f a).2) 0 = false := by rw [ilt_dec, dec_f hlc]
          refine Rs.cond rfl (fun e => absurd (e.symm.trans hc) (by simp)) (fun _ => ?_)
          repeat (first | with_reducible refine Rs.seqA ?_ | with_reducible refine Rs.seqRegion ?_ | with_reducible refine Rs.seqSkip ?_ | with_reducible refine Rs.lastRegion ?_ | refine Sq.o rfl rfl (fun _ => rfl) rfl ?_ | refine Sq.off rfl rfl ?_ | refine Sq.nil ?_)
          exact ⟨(i + j) / 2 - i, by omega, i, (i + j) / 2, h3, _, _, _, _, _, _, _, _, _, _, _, _, _, _, _, _, _, _, _, _, _, _, _, _, _, _, _, _, rfl, rfl, by omega, q1, (fun k e1 e2 => by
            by_cases c : k = (i + j) / 2
            · subst c; exact le_of_nlt hlc
            · exact (le_of_nlt hlc).trans (sr ((i + j) / 2) k (by omega) (by omega) e2)), d3, x3⟩
      · rw [dec_f hlt]
        refine Rs.seqF rfl ?_
        refine Rs.seqExit ?_
        have e : j = i := by omega
        subst e
        exact ⟨rfl, _, h1, _, _, _, _, _, _, _, _, _, _, _, _, _, _, _, _, _, _, _, _, _, _, _, _, _, _, _, _, _, rfl, by omega, q1, q2, d1, x1⟩
    · rintro st ⟨i, h1, x11, x12, x13, x14, x15, x16, x17, x18, x19, x20, x21, x22, x23, x24, x28, x33, x50, x58, x80, x85, x103, x110, x140, x151, x171, x185, x199, x213, ts, rfl, hij, q1, q2, d1, x1⟩
      repeat (first | with_reducible refine Rs.seqA ?_ | with_reducible refine Rs.seqRegion ?_ | with_reducible refine Rs.seqSkip ?_ | with_reducible refine Rs.lastRegion ?_ | refine Sq.o rfl rfl (fun _ => rfl) rfl ?_ | refine Sq.off rfl rfl ?_ | refine Sq.nil ?_)
      refine Rs.seqLoop (fun k st => ∃ k2 h1 x11 x12 x14 x15 x16 x17 x18 x19 x20 x21 x22 x23 x24 x28 x33 x50 x58 x80 x85 x103 x110 x140 x151 x171 x185 x199 x213 ts, st = ⟨⟨(.cons 0 (dv bk N) (.cons 1 (.int .i64 (Int.ofNat a)) (.cons 2 (.int .i64 (Int.ofNat m)) (.cons 3 (.int .i64 (Int.ofNat b)) (.cons 4 (.func (.func 43) #[] #[]) (.cons 10 (.int .i64 (Int.ofNat i)) (.cons 11 (x11) (.cons 12 (x12) (.cons 13 (.int .i64 (Int.ofNat k2)) (.cons 14 (x14) (.cons 15 (x15) (.cons 16 (x16) (.cons 17 (x17) (.cons 18 (x18) (.cons 19 (x19) (.cons 20 (x20) (.cons 21 (x21) (.cons 22 (x22) (.cons 23 (x23) (.cons 24 (x24) (.cons 28 (x28) (.cons 33 (x33) (.cons 50 (x50) (.cons 58 (x58) (.cons 80 (x80) (.cons 85 (x85) (.cons 103 (x103) (.cons 110 (x110) (.cons 140 (x140) (.cons 151 (x151) (.cons 171 (x171) (.cons 185 (x185) (.cons 199 (x199) (.cons 213 (x213) .nil)))))))))))))))))))))))))))))))))), ts⟩, [], h1⟩ ∧ (k2 + k = i - 1) ∧ (a ≤ k2) ∧ (DV h1 bk N (shU f a k2)) ∧ (SW a b f (shU f a k2)) ∧ (KX bk h h1)) (fun st => ∃ h1 x10 x11 x12 x13 x14 x15 x16 x17 x18 x19 x20 x21 x22 x23 x24 x28 x33 x50 x58 x80 x85 x103 x110 x140 x151 x171 x185 x199 x213 ts, st = ⟨⟨(.cons 0 (dv bk N) (.cons 1 (.int .i64 (Int.ofNat a)) (.cons 2 (.int .i64 (Int.ofNat m)) (.cons 3 (.int .i64 (Int.ofNat b)) (.cons 4 (.func (.func 43) #[] #[]) (.cons 10 (x10) (.cons 11 (x11) (.cons 12 (x12) (.cons 13 (x13) (.cons 14 (x14) (.cons 15 (x15) (.cons 16 (x16) (.cons 17 (x17) (.cons 18 (x18) (.cons 19 (x19) (.cons 20 (x20) (.cons 21 (x21) (.cons 22 (x22) (.cons 23 (x23) (.cons 24 (x24) (.cons 28 (x28) (.cons 33 (x33) (.cons 50 (x50) (.cons 58 (x58) (.cons 80 (x80) (.cons 85 (x85) (.cons 103 (x103) (.cons 110 (x110) (.cons 140 (x140) (.cons 151 (x151) (.cons 171 (x171) (.cons 185 (x185) (.cons 199 (x199) (.cons 213 (x213) .nil)))))))))))))))))))))))))))))))))), ts⟩, [], h1⟩ ∧ (DV h1 bk N (shU f a (i - 1))) ∧ (SW a b f (shU f a (i - 1))) ∧ (KX bk h h1)) ?_ ?_ (i - 1 - a) _ ⟨a, _, _, _, _, _, _, _, _, _, _, _, _, _, _, _, _, _, _, _, _, _, _, _, _, _, _, _, _, _, rfl, by omega, by omega, by rw [shU_0]; exact d1, by rw [shU_0]; exact .refl f, x1⟩
      · rintro k st ⟨k2, h1, x11, x12, x14, x15, x16, x17, x18, x19, x20, x21, x22, x23, x24, x28, x33, x50, x58, x80, x85, x103, x110, x140, x151, x171, x185, x199, x213, ts, rfl, hk, hka, d1, s1, x1⟩
        repeat (first | with_reducible refine Rs.seqA ?_ | with_reducible refine Rs.seqRegion ?_ | with_reducible refine Rs.seqSkip ?_ | with_reducible refine Rs.lastRegion ?_ | refine Sq.o rfl rfl (fun _ => rfl) rfl ?_ | refine Sq.off rfl rfl ?_ | refine Sq.nil ?_)
        refine Sq.a rfl rfl (op_sub (b := 1) rfl rfl (by omega) (by omega)) rfl ?_
        repeat (first | with_reducible refine Rs.seqA ?_ | with_reducible refine Rs.seqRegion ?_ | with_reducible refine Rs.seqSkip ?_ | with_reducible refine Rs.lastRegion ?_ | refine Sq.o rfl rfl (fun _ => rfl) rfl ?_ | refine Sq.off rfl rfl ?_ | refine Sq.nil ?_)
        (first | rw [ilt_nat] | rw [ilt_oc] | rw [ilt_co] | rw [ilt_cc])
        by_cases hlt : k2 < i - 1
        · rw [dec_t hlt]
          refine Rs.seqT rfl ?_
          repeat (first | with_reducible refine Rs.seqA ?_ | with_reducible refine Rs.seqRegion ?_ | with_reducible refine Rs.seqSkip ?_ | with_reducible refine Rs.lastRegion ?_ | refine Sq.o rfl rfl (fun _ => rfl) rfl ?_ | refine Sq.off rfl rfl ?_ | refine Sq.nil ?_)
          refine Rs.seqBlock ?_
          have r1 := d1.row (k2) (by omega)
          have r2 := d1.row (k2 + 1) (by omega)
          refine Rs.lastDraw (ord := [0, 1, 2, 3, 4, 5, 6, 7, 8, 9, 10, 11, 12, 13, 14, 15, 16, 17]) false x1.wf (by kernel_rfl) (by kernel_rfl) ?_
          repeat (first | refine Dr.c rfl rfl rfl rfl rfl rfl ?_ | refine Dr.off rfl rfl rfl ?_)
          refine Dr.o rfl rfl rfl (op_add (b := 1) rfl rfl (by omega)) rfl ?_
          repeat (first | refine Dr.c rfl rfl rfl rfl rfl rfl ?_ | refine Dr.off rfl rfl rfl ?_)
          refine Dr.o rfl rfl rfl (op_add (b := 1) rfl rfl (by omega)) rfl ?_
          refine Dr.o rfl rfl rfl (op_indexAddr rfl rfl (show k2 + 1 < N by omega) rfl rfl) rfl ?_
          refine Dr.r rfl rfl rfl (d1.load (show k2 + 1 < N by omega) rfl) rfl (veq_row r2.1) ?_
          repeat (first | refine Dr.c rfl rfl rfl rfl rfl rfl ?_ | refine Dr.off rfl rfl rfl ?_)
          refine Dr.o rfl rfl rfl (op_indexAddr rfl rfl (show k2 < N by omega) rfl rfl) rfl ?_
          refine Dr.r rfl rfl rfl (d1.load (show k2 < N by omega) rfl) rfl (veq_row r1.1) ?_
          refine Dr.o rfl rfl rfl (op_indexAddr rfl rfl (show k2 < N by omega) rfl rfl) rfl ?_
          refine Dr.store x1.wf rfl rfl rfl rfl rfl d1.get (row_store r2.1).1 (by rw [(row_store r2.1).2]; exact cellsOf_set _ _ (show k2 < N by omega)) rfl fun h4 p4 => ?_
          refine Dr.o rfl rfl rfl (op_indexAddr rfl rfl (show k2 + 1 < N by omega) rfl rfl) rfl ?_
          refine Dr.store p4.wf rfl rfl rfl rfl rfl p4.is (row_store r1.1).1 (by rw [(row_store r1.1).2]; exact cellsOf_set _ _ (show k2 + 1 < N by omega)) rfl fun h5 p5 => ?_
          obtain ⟨d5, k5⟩ := d1.two (show k2 < N by omega) (show k2 + 1 < N by omega) p4 p5
          refine Dr.nil ?_
          rw [shU_step f a k2 hka] at d5
          refine Rs.lastRegion ?_
          repeat (first | with_reducible refine Rs.seqA ?_ | with_reducible refine Rs.seqRegion ?_ | with_reducible refine Rs.seqSkip ?_ | with_reducible refine Rs.lastRegion ?_ | refine Sq.o rfl rfl (fun _ => rfl) rfl ?_ | refine Sq.off rfl rfl ?_ | refine Sq.nil ?_)
          refine Sq.a rfl rfl (op_add (b := 1) rfl rfl (by omega)) rfl ?_
          repeat (first | with_reducible refine Rs.seqA ?_ | with_reducible refine Rs.seqRegion ?_ | with_reducible refine Rs.seqSkip ?_ | with_reducible refine Rs.lastRegion ?_ | refine Sq.o rfl rfl (fun _ => rfl) rfl ?_ | refine Sq.off rfl rfl ?_ | refine Sq.nil ?_)
          exact ⟨i - 1 - (k2 + 1), by omega, k2 + 1, h5, _, _, _, _, _, _, _, _, _, _, _, _, _, _, _, _, _, _, _, _, _, _, _, _, _, _, _, _, rfl, by omega, by omega, d5, by rw [← shU_step f a k2 hka]; exact .step s1 (by omega) (by omega) (by omega) (by omega), x1.trans k5⟩
        · rw [dec_f hlt]
          refine Rs.seqF rfl ?_
          refine Rs.seqExit ?_
          have e : k2 = i - 1 := by omega
          subst e
          exact ⟨rfl, h1, _, _, _, _, _, _, _, _, _, _, _, _, _, _, _, _, _, _, _, _, _, _, _, _, _, _, _, _, _, _, rfl, d1, s1, x1⟩
      · rintro st ⟨h1, x10, x11, x12, x13, x14, x15, x16, x17, x18, x19, x20, x21, x22, x23, x24, x28, x33, x50, x58, x80, x85, x103, x110, x140, x151, x171, x185, x199, x213, ts, rfl, d1, s1, x1⟩
        repeat (first | with_reducible refine Rs.seqA ?_ | with_reducible refine Rs.seqRegion ?_ | with_reducible refine Rs.seqSkip ?_ | with_reducible refine Rs.lastRegion ?_ | refine Sq.o rfl rfl (fun _ => rfl) rfl ?_ | refine Sq.off rfl rfl ?_ | refine Sq.nil ?_)
        have e : m = a + 1 := by omega
        subst e
        exact Rs.seqRet ⟨.inr rfl, _, _, _, rfl, rfl, rfl, _, d1, s1, shU_srt hij.1 hij.2 sr q1 q2, x1⟩
  have hc : ieq (Int.ofNat (m - a)) 1 = false := by rw [ieq_o1, dec_f hm1]
  refine Rs.seqCond rfl (fun e => absurd (e.symm.trans hc) (by simp)) (fun _ => ?_)
  repeat (first | with_reducible refine Rs.seqA ?_ | with_reducible refine Rs.seqRegion ?_ | with_reducible refine Rs.seqSkip ?_ | with_reducible refine Rs.lastRegion ?_ | refine Sq.o rfl rfl (fun _ => rfl) rfl ?_ | refine Sq.off rfl rfl ?_ | refine Sq.nil ?_)
  refine Sq.a rfl rfl (op_sub rfl rfl (by omega) (by omega)) rfl ?_
  repeat (first | with_reducible refine Rs.seqA ?_ | with_reducible refine Rs.seqRegion ?_ | with_reducible refine Rs.seqSkip ?_ | with_reducible refine Rs.lastRegion ?_ | refine Sq.o rfl rfl (fun _ => rfl) rfl ?_ | refine Sq.off rfl rfl ?_ | refine Sq.nil ?_)
  by_cases hb1 : b - m = 1
  · have hc : ieq (Int.ofNat (b - m)) 1 = true := by rw [ieq_o1, dec_t hb1]
    refine Rs.seqCond rfl (fun _ => ?_) (fun e => absurd (e.symm.trans hc) (by simp))
    repeat (first | with_reducible refine Rs.seqA ?_ | with_reducible refine Rs.seqRegion ?_ | with_reducible refine Rs.seqSkip ?_ | with_reducible refine Rs.lastRegion ?_ | refine Sq.o rfl rfl (fun _ => rfl) rfl ?_ | refine Sq.off rfl rfl ?_ | refine Sq.nil ?_)
    refine Rs.seqLoop (fun k st => ∃ i j h1 x10 x11 x12 x13 x16 x17 x18 x19 x20 x21 x22 x23 x24 x28 x33 x50 x58 x80 x85 x103 x110 x140 x151 x171 x185 x199 x213 ts, st = ⟨⟨(.cons 0 (dv bk N) (.cons 1 (.int .i64 (Int.ofNat a)) (.cons 2 (.int .i64 (Int.ofNat m)) (.cons 3 (.int .i64 (Int.ofNat b)) (.cons 4 (.func (.func 43) #[] #[]) (.cons 10 (x10) (.cons 11 (x11) (.cons 12 (x12) (.cons 13 (x13) (.cons 14 (.int .i64 (Int.ofNat i)) (.cons 15 (.int .i64 (Int.ofNat j)) (.cons 16 (x16) (.cons 17 (x17) (.cons 18 (x18) (.cons 19 (x19) (.cons 20 (x20) (.cons 21 (x21) (.cons 22 (x22) (.cons 23 (x23) (.cons 24 (x24) (.cons 28 (x28) (.cons 33 (x33) (.cons 50 (x50) (.cons 58 (x58) (.cons 80 (x80) (.cons 85 (x85) (.cons 103 (x103) (.cons 110 (x110) (.cons 140 (x140) (.cons 151 (x151) (.cons 171 (x171) (.cons 185 (x185) (.cons 199 (x199) (.cons 213 (x213) .nil)))))))))))))))))))))))))))))))))), ts⟩, [], h1⟩ ∧ (j - i = k) ∧ (a ≤ i ∧ i ≤ j ∧ j ≤ m) ∧ (∀ k, a ≤ k → k < i → Le (f k) (f m)) ∧ (∀ k, j ≤ k → k < m → Le (f m) (f k)) ∧ (DV h1 bk N f) ∧ (KX bk h h1)) (fun st => ∃ i h1 x10 x11 x12 x13 x15 x16 x17 x18 x19 x20 x21 x22 x23 x24 x28 x33 x50 x58 x80 x85 x103 x110 x140 x151 x171 x185 x199 x213 ts, st = ⟨⟨(.cons 0 (dv bk N) (.cons 1 (.int .i64 (Int.ofNat a)) (.cons 2 (.int .i64 (Int.ofNat m)) (.cons 3 (.int .i64 (Int.ofNat b)) (.cons 4 (.func (.func 43) #[] #[]) (.cons 10 (x10) (.cons 11 (x11) (.cons 12 (x12) (.cons 13 (x13) (.cons 14 (.int .i64 (Int.ofNat i)) (.cons 15 (x15) (.cons 16 (x16) (.cons 17 (x17) (.cons 18 (x18) (.cons 19 (x19) (.cons 20 (x20) (.cons 21 (x21) (.cons 22 (x22) (.cons 23 (x23) (.cons 24 (x24) (.cons 28 (x28) (.cons 33 (x33) (.cons 50 (x50) (.cons 58 (x58) (.cons 80 (x80) (.cons 85 (x85) (.cons 103 (x103) (.cons 110 (x110) (.cons 140 (x140) (.cons 151 (x151) (.cons 171 (x171) (.cons 185 (x185) (.cons 199 (x199) (.cons 213 (x213) .nil)))))))))))))))))))))))))))))))))), ts⟩, [], h1⟩ ∧ (a ≤ i ∧ i ≤ m) ∧ (∀ k, a ≤ k → k < i → Le (f k) (f m)) ∧ (∀ k, i ≤ k → k < m → Le (f m) (f k)) ∧ (DV h1 bk N f) ∧ (KX bk h h1)) ?_ ?_ (m - a) _ ⟨a, m, _, _, _, _, _, _, _, _, _, _, _, _, _, _, _, _, _, _, _, _, _, _, _, _, _, _, _, _, _, rfl, rfl, by omega, (fun k h1 h2 => by omega), (fun k h1 h2 => by omega), d, KX.refl w⟩
    · rintro k st ⟨i, j, h1, x10, x11, x12, x13, x16, x17, x18, x19, x20, x21, x22, x23, x24, x28, x33, x50, x58, x80, x85, x103, x110, x140, x151, x171, x185, x199, x213, ts, rfl, hk, hij, q1, q2, d1, x1⟩
      repeat (first | with_reducible refine Rs.seqA ?_ | with_reducible refine Rs.seqRegion ?_ | with_reducible refine Rs.seqSkip ?_ | with_reducible refine Rs.lastRegion ?_ | refine Sq.o rfl rfl (fun _ => rfl) rfl ?_ | refine Sq.off rfl rfl ?_ | refine Sq.nil ?_)
      (first | rw [ilt_nat] | rw [ilt_oc] | rw [ilt_co] | rw [ilt_cc])
      by_cases hlt : i < j
      · rw [dec_t hlt]
        refine Rs.seqT rfl ?_
        repeat (first | with_reducible refine Rs.seqA ?_ | with_reducible refine Rs.seqRegion ?_ | with_reducible refine Rs.seqSkip ?_ | with_reducible refine Rs.lastRegion ?_ | refine Sq.o rfl rfl (fun _ => rfl) rfl ?_ | refine Sq.off rfl rfl ?_ | refine Sq.nil ?_)
        refine Rs.block ?_
        repeat (first | with_reducible refine Rs.seqA ?_ | with_reducible refine Rs.seqRegion ?_ | with_reducible refine Rs.seqSkip ?_ | with_reducible refine Rs.lastRegion ?_ | refine Sq.o rfl rfl (fun _ => rfl) rfl ?_ | refine Sq.off rfl rfl ?_ | refine Sq.nil ?_)
        refine Sq.a rfl rfl (op_add rfl rfl (by omega)) rfl ?_
        refine Sq.a rfl rfl (op_toU rfl (by omega)) rfl ?_
        refine Sq.a rfl rfl (op_half rfl rfl) rfl ?_
        refine Sq.a rfl rfl (op_toI rfl (by omega)) rfl ?_
        repeat (first | with_reducible refine Rs.seqA ?_ | with_reducible refine Rs.seqRegion ?_ | with_reducible refine Rs.seqSkip ?_ | with_reducible refine Rs.lastRegion ?_ | refine Sq.o rfl rfl (fun _ => rfl) rfl ?_ | refine Sq.off rfl rfl ?_ | refine Sq.nil ?_)
        have r1 := d1.row m (by omega)
        have r2 := d1.row ((i + j) / 2) (by omega)
        refine Rs.seqDraw (ord := [0, 1, 2, 3, 4, 5, 6, 7, 8, 9, 10, 11]) true x1.wf (by kernel_rfl) (by kernel_rfl) ?_
        repeat (first | refine Dr.c rfl rfl rfl rfl rfl rfl ?_ | refine Dr.off rfl rfl rfl ?_)
        refine Dr.o rfl rfl rfl (op_indexAddr rfl rfl (show m < N by omega) rfl rfl) rfl ?_
        refine Dr.r rfl rfl rfl (d1.load (show m < N by omega) rfl) rfl (veq_row r1.1) ?_
        repeat (first | refine Dr.c rfl rfl rfl rfl rfl rfl ?_ | refine Dr.off rfl rfl rfl ?_)
        refine Dr.o rfl rfl rfl (op_indexAddr rfl rfl (show (i + j) / 2 < N by omega) rfl rfl) rfl ?_
        refine Dr.r rfl rfl rfl (d1.load (show (i + j) / 2 < N by omega) rfl) rfl (veq_row r2.1) ?_
        refine Dr.call rfl rfl rfl rfl rfl (Cv.f ((run43 x1.wf r1.1 r2.1 r1.2 r2.2).mono fun v h3 hv => ?_))
        obtain ⟨rfl, g3⟩ := hv
        refine ⟨g3.size, g3.wf, fun _ => g3.keep, _, rfl, ?_⟩
        repeat (first | refine Dr.c rfl rfl rfl rfl rfl rfl ?_ | refine Dr.off rfl rfl rfl ?_)
        refine Dr.nil ?_
        have d3 := d1.keepX g3.keep
        have x3 := x1.trans (g3.kx bk)
        by_cases hlc : cmpR (f m).2 (f ((i + j) / 2)).2 < 0
        · have hc : (!ilt (cmpR (f m).2 (f ((i + j) / 2)).2) 0) = false := by rw [ilt_dec, dec_t hlc]; rfl
          refine Rs.cond rfl (fun e => absurd (e.symm.trans hc) (by simp)) (fun _ => ?_)
          repeat (first | with_reducible refine Rs.seqA ?_ | with_reducible refine Rs.seqRegion ?_ | with_reducible refine Rs.seqSkip ?_ | with_reducible refine Rs.lastRegion ?_ | refine Sq.o rfl rfl (fun _ => rfl) rfl ?_ | refine Sq.off rfl rfl ?_ | refine Sq.nil ?_)
          exact ⟨(i + j) / 2 - i, by omega, i, (i + j) / 2, h3, _, _, _, _, _, _, _, _, _, _, _, _, _, _, _, _, _, _, _, _, _, _, _, _, _, _, _, _, rfl, rfl, by omega, q1, (fun k e1 e2 => by
            by_cases c : k = (i + j) / 2
            · subst c; exact le_of_lt hlc
            · exact (le_of_lt hlc).trans (sl ((i + j) / 2) k (by omega) (by omega) e2)), d3, x3⟩
        · have hc : (!ilt (cmpR (f m).2 (f ((i + j) / 2)).2) 0) = true := by rw [ilt_dec, dec_f hlc]; rfl
          refine Rs.cond rfl (fun _ => ?_) (fun e => absurd (e.symm.trans hc) (by simp))
          repeat (first | with_reducible refine Rs.seqA ?_ | with_reducible refine Rs.seqRegion ?_ | with_reducible refine Rs.seqSkip ?_ | with_reducible refine Rs.lastRegion ?_ | refine Sq.o rfl rfl (fun _ => rfl) rfl ?_ | refine Sq.off rfl rfl ?_ | refine Sq.nil ?_)
          refine Sq.a rfl rfl (op_add (b := 1) rfl rfl (by omega)) rfl ?_
          repeat (first | with_reducible refine Rs.seqA ?_ | with_reducible refine Rs.seqRegion ?_ | with_reducible refine Rs.seqSkip ?_ | with_reducible refine Rs.lastRegion ?_ | refine Sq.o rfl rfl (fun _ => rfl) rfl ?_ | refine Sq.off rfl rfl ?_ | refine Sq.nil ?_)
          exact ⟨j - ((i + j) / 2 + 1), by omega, (i + j) / 2 + 1, j, h3, _, _, _, _, _, _, _, _, _, _, _, _, _, _, _, _, _, _, _, _, _, _, _, _, _, _, _, _, rfl, rfl, by omega, (fun k e1 e2 => by
            by_cases c : k = (i + j) / 2
            · subst c; exact le_of_nlt hlc
            · exact (sl k ((i + j) / 2) e1 (by omega) (by omega)).trans (le_of_nlt hlc)), q2, d3, x3⟩
      · rw [dec_f hlt]
        refine Rs.seqF rfl ?_
        refine Rs.seqExit ?_
        have e : j = i := by omega
        subst e
        exact ⟨rfl, _, h1, _, _, _, _, _, _, _, _, _, _, _, _, _, _, _, _, _, _, _, _, _, _, _, _, _, _, _, _, _, rfl, by omega, q1, q2, d1, x1⟩
    · rintro st ⟨i, h1, x10, x11, x12, x13, x15, x16, x17, x18, x19, x20, x21, x22, x23, x24, x28, x33, x50, x58, x80, x85, x103, x110, x140, x151, x171, x185, x199, x213, ts, rfl, hij, q1, q2, d1, x1⟩
      repeat (first | with_reducible refine Rs.seqA ?_ | with_reducible refine Rs.seqRegion ?_ | with_reducible refine Rs.seqSkip ?_ | with_reducible refine Rs.lastRegion ?_ | refine Sq.o rfl rfl (fun _ => rfl) rfl ?_ | refine Sq.off rfl rfl ?_ | refine Sq.nil ?_)
      refine Rs.seqLoop (fun k st => ∃ k2 h1 x10 x11 x12 x13 x15 x16 x18 x19 x20 x21 x22 x23 x24 x28 x33 x50 x58 x80 x85 x103 x110 x140 x151 x171 x185 x199 x213 ts, st = ⟨⟨(.cons 0 (dv bk N) (.cons 1 (.int .i64 (Int.ofNat a)) (.cons 2 (.int .i64 (Int.ofNat m)) (.cons 3 (.int .i64 (Int.ofNat b)) (.cons 4 (.func (.func 43) #[] #[]) (.cons 10 (x10) (.cons 11 (x11) (.cons 12 (x12) (.cons 13 (x13) (.cons 14 (.int .i64 (Int.ofNat i)) (.cons 15 (x15) (.cons 16 (x16) (.cons 17 (.int .i64 (Int.ofNat k2)) (.cons 18 (x18) (.cons 19 (x19) (.cons 20 (x20) (.cons 21 (x21) (.cons 22 (x22) (.cons 23 (x23) (.cons 24 (x24) (.cons 28 (x28) (.cons 33 (x33) (.cons 50 (x50) (.cons 58 (x58) (.cons 80 (x80) (.cons 85 (x85) (.cons 103 (x103) (.cons 110 (x110) (.cons 140 (x140) (.cons 151 (x151) (.cons 171 (x171) (.cons 185 (x185) (.cons 199 (x199) (.cons 213 (x213) .nil)))))))))))))))))))))))))))))))))), ts⟩, [], h1⟩ ∧ (k2 = i + k) ∧ (k2 ≤ m) ∧ (DV h1 bk N (shD f m k2)) ∧ (SW a b f (shD f m k2)) ∧ (KX bk h h1)) (fun st => ∃ h1 x10 x11 x12 x13 x14 x15 x16 x17 x18 x19 x20 x21 x22 x23 x24 x28 x33 x50 x58 x80 x85 x103 x110 x140 x151 x171 x185 x199 x213 ts, st = ⟨⟨(.cons 0 (dv bk N) (.cons 1 (.int .i64 (Int.ofNat a)) (.cons 2 (.int .i64 (Int.ofNat m)) (.cons 3 (.int .i64 (Int.ofNat b)) (.cons 4 (.func (.func 43) #[] #[]) (.cons 10 (x10) (.cons 11 (x11) (.cons 12 (x12) (.cons 13 (x13) (.cons 14 (x14) (.cons 15 (x15) (.cons 16 (x16) (.cons 17 (x17) (.cons 18 (x18) (.cons 19 (x19) (.cons 20 (x20) (.cons 21 (x21) (.cons 22 (x22) (.cons 23 (x23) (.cons 24 (x24) (.cons 28 (x28) (.cons 33 (x33) (.cons 50 (x50) (.cons 58 (x58) (.cons 80 (x80) (.cons 85 (x85) (.cons 103 (x103) (.cons 110 (x110) (.cons 140 (x140) (.cons 151 (x151) (.cons 171 (x171) (.cons 185 (x185) (.cons 199 (x199) (.cons 213 (x213) .nil)))))))))))))))))))))))))))))))))), ts⟩, [], h1⟩ ∧ (DV h1 bk N (shD f m i)) ∧ (SW a b f (shD f m i)) ∧ (KX bk h h1)) ?_ ?_ (m - i) _ ⟨m, _, _, _, _, _, _, _, _, _, _, _, _, _, _, _, _, _, _, _, _, _, _, _, _, _, _, _, _, _, rfl, by omega, by omega, by rw [shD_0]; exact d1, by rw [shD_0]; exact .refl f, x1⟩
      · rintro k st ⟨k2, h1, x10, x11, x12, x13, x15, x16, x18, x19, x20, x21, x22, x23, x24, x28, x33, x50, x58, x80, x85, x103, x110, x140, x151, x171, x185, x199, x213, ts, rfl, hk, hka, d1, s1, x1⟩
        repeat (first | with_reducible refine Rs.seqA ?_ | with_reducible refine Rs.seqRegion ?_ | with_reducible refine Rs.seqSkip ?_ | with_reducible refine Rs.lastRegion ?_ | refine Sq.o rfl rfl (fun _ => rfl) rfl ?_ | refine Sq.off rfl rfl ?_ | refine Sq.nil ?_)
        (first | rw [ilt_nat] | rw [ilt_oc] | rw [ilt_co] | rw [ilt_cc])
        by_cases hlt : i < k2
        · rw [dec_t hlt]
          refine Rs.seqT rfl ?_
          repeat (first | with_reducible refine Rs.seqA ?_ | with_reducible refine Rs.seqRegion ?_ | with_reducible refine Rs.seqSkip ?_ | with_reducible refine Rs.lastRegion ?_ | refine Sq.o rfl rfl (fun _ => rfl) rfl ?_ | refine Sq.off rfl rfl ?_ | refine Sq.nil ?_)
          refine Rs.seqBlock ?_
          have r1 := d1.row (k2) (by omega)
          have r2 := d1.row (k2 - 1) (by omega)
          refine Rs.lastDraw (ord := [0, 1, 2, 3, 4, 5, 6, 7, 8, 9, 10, 11, 12, 13, 14, 15, 16, 17]) false x1.wf (by kernel_rfl) (by kernel_rfl) ?_
          repeat (first | refine Dr.c rfl rfl rfl rfl rfl rfl ?_ | refine Dr.off rfl rfl rfl ?_)
          refine Dr.o rfl rfl rfl (op_sub (b := 1) rfl rfl (by omega) (by omega)) rfl ?_
          repeat (first | refine Dr.c rfl rfl rfl rfl rfl rfl ?_ | refine Dr.off rfl rfl rfl ?_)
          refine Dr.o rfl rfl rfl (op_sub (b := 1) rfl rfl (by omega) (by omega)) rfl ?_
          refine Dr.o rfl rfl rfl (op_indexAddr rfl rfl (show k2 - 1 < N by omega) rfl rfl) rfl ?_
          refine Dr.r rfl rfl rfl (d1.load (show k2 - 1 < N by omega) rfl) rfl (veq_row r2.1) ?_
          repeat (first | refine Dr.c rfl rfl rfl rfl rfl rfl ?_ | refine Dr.off rfl rfl rfl ?_)
          refine Dr.o rfl rfl rfl (op_indexAddr rfl rfl (show k2 < N by omega) rfl rfl) rfl ?_
          refine Dr.r rfl rfl rfl (d1.load (show k2 < N by omega) rfl) rfl (veq_row r1.1) ?_
          refine Dr.o rfl rfl rfl (op_indexAddr rfl rfl (show k2 < N by omega) rfl rfl) rfl ?_
          refine Dr.store x1.wf rfl rfl rfl rfl rfl d1.get (row_store r2.1).1 (by rw [(row_store r2.1).2]; exact cellsOf_set _ _ (show k2 < N by omega)) rfl fun h4 p4 => ?_
          refine Dr.o rfl rfl rfl (op_indexAddr rfl rfl (show k2 - 1 < N by omega) rfl rfl) rfl ?_
          refine Dr.store p4.wf rfl rfl rfl rfl rfl p4.is (row_store r1.1).1 (by rw [(row_store r1.1).2]; exact cellsOf_set _ _ (show k2 - 1 < N by omega)) rfl fun h5 p5 => ?_
          obtain ⟨d5, k5⟩ := d1.two (show k2 < N by omega) (show k2 - 1 < N by omega) p4 p5
          refine Dr.nil ?_
          rw [shD_step f m k2 hka (by omega)] at d5
          refine Rs.lastRegion ?_
          repeat (first | with_reducible refine Rs.seqA ?_ | with_reducible refine Rs.seqRegion ?_ | with_reducible refine Rs.seqSkip ?_ | with_reducible refine Rs.lastRegion ?_ | refine Sq.o rfl rfl (fun _ => rfl) rfl ?_ | refine Sq.off rfl rfl ?_ | refine Sq.nil ?_)
          refine Sq.a rfl rfl (op_sub (b := 1) rfl rfl (by omega) (by omega)) rfl ?_
          repeat (first | with_reducible refine Rs.seqA ?_ | with_reducible refine Rs.seqRegion ?_ | with_reducible refine Rs.seqSkip ?_ | with_reducible refine Rs.lastRegion ?_ | refine Sq.o rfl rfl (fun _ => rfl) rfl ?_ | refine Sq.off rfl rfl ?_ | refine Sq.nil ?_)
          exact ⟨k - 1, by omega, k2 - 1, h5, _, _, _, _, _, _, _, _, _, _, _, _, _, _, _, _, _, _, _, _, _, _, _, _, _, _, _, _, rfl, by omega, by omega, d5, by rw [← shD_step f m k2 hka (by omega)]; exact .step s1 (by omega) (by omega) (by omega) (by omega), x1.trans k5⟩
        · rw [dec_f hlt]
          refine Rs.seqF rfl ?_
          refine Rs.seqExit ?_
          have e : k2 = i := by omega
          subst e
          exact ⟨rfl, h1, _, _, _, _, _, _, _, _, _, _, _, _, _, _, _, _, _, _, _, _, _, _, _, _, _, _, _, _, _, _, rfl, d1, s1, x1⟩
      · rintro st ⟨h1, x10, x11, x12, x13, x14, x15, x16, x17, x18, x19, x20, x21, x22, x23, x24, x28, x33, x50, x58, x80, x85, x103, x110, x140, x151, x171, x185, x199, x213, ts, rfl, d1, s1, x1⟩
        repeat (first | with_reducible refine Rs.seqA ?_ | with_reducible refine Rs.seqRegion ?_ | with_reducible refine Rs.seqSkip ?_ | with_reducible refine Rs.lastRegion ?_ | refine Sq.o rfl rfl (fun _ => rfl) rfl ?_ | refine Sq.off rfl rfl ?_ | refine Sq.nil ?_)
        have e : b = m + 1 := by omega
        subst e
        exact Rs.seqRet ⟨.inr rfl, _, _, _, rfl, rfl, rfl, _, d1, s1, shD_srt hij.1 hij.2 sl q1 q2, x1⟩
  have hc : ieq (Int.ofNat (b - m)) 1 = false := by rw [ieq_o1, dec_f hb1]
  refine Rs.seqCond rfl (fun e => absurd (e.symm.trans hc) (by simp)) (fun _ => ?_)
  repeat (first | with_reducible refine Rs.seqA ?_ | with_reducible refine Rs.seqRegion ?_ | with_reducible refine Rs.seqSkip ?_ | with_reducible refine Rs.lastRegion ?_ | refine Sq.o rfl rfl (fun _ => rfl) rfl ?_ | refine Sq.off rfl rfl ?_ | refine Sq.nil ?_)
  refine Sq.a rfl rfl (op_add rfl rfl (by omega)) rfl ?_
  refine Sq.a rfl rfl (op_toU rfl (by omega)) rfl ?_
  refine Sq.a rfl rfl (op_half rfl rfl) rfl ?_
  refine Sq.a rfl rfl (op_toI rfl (by omega)) rfl ?_
  repeat (first | with_reducible refine Rs.seqA ?_ | with_reducible refine Rs.seqRegion ?_ | with_reducible refine Rs.seqSkip ?_ | with_reducible refine Rs.lastRegion ?_ | refine Sq.o rfl rfl (fun _ => rfl) rfl ?_ | refine Sq.off rfl rfl ?_ | refine Sq.nil ?_)
  refine Sq.a rfl rfl (op_add rfl rfl (by omega)) rfl ?_
  repeat (first | with_reducible refine Rs.seqA ?_ | with_reducible refine Rs.seqRegion ?_ | with_reducible refine Rs.seqSkip ?_ | with_reducible refine Rs.lastRegion ?_ | refine Sq.o rfl rfl (fun _ => rfl) rfl ?_ | refine Sq.off rfl rfl ?_ | refine Sq.nil ?_)
  generalize hmid : (a + b) / 2 = mid
  obtain ⟨s0, hs0⟩ : ∃ s0, s0 = if mid < m then mid + m - b else a := ⟨_, rfl⟩
  obtain ⟨r0, hr0⟩ : ∃ r0, r0 = if mid < m then mid else m := ⟨_, rfl⟩
  have hB : (mid < m ∧ s0 = mid + m - b ∧ r0 = mid) ∨ (¬ mid < m ∧ s0 = a ∧ r0 = m) := by
    by_cases c : mid < m
    · rw [if_pos c] at hs0 hr0; exact .inl ⟨c, hs0, hr0⟩
    · rw [if_neg c] at hs0 hr0; exact .inr ⟨c, hs0, hr0⟩
  refine Rs.seq (Rs.mono (Q := fun x st => x = .normal ∧ ∃ h1 x10 x11 x12 x13 x14 x15 x16 x17 x22 x23 x24 x28 x33 x50 x58 x80 x85 x103 x110 x140 x151 x171 x185 x199 x213 ts, st = ⟨⟨(.cons 0 (dv bk N) (.cons 1 (.int .i64 (Int.ofNat a)) (.cons 2 (.int .i64 (Int.ofNat m)) (.cons 3 (.int .i64 (Int.ofNat b)) (.cons 4 (.func (.func 43) #[] #[]) (.cons 10 (x10) (.cons 11 (x11) (.cons 12 (x12) (.cons 13 (x13) (.cons 14 (x14) (.cons 15 (x15) (.cons 16 (x16) (.cons 17 (x17) (.cons 18 (.int .i64 (Int.ofNat mid)) (.cons 19 (.int .i64 (Int.ofNat (mid + m))) (.cons 20 (.int .i64 (Int.ofNat s0)) (.cons 21 (.int .i64 (Int.ofNat r0)) (.cons 22 (x22) (.cons 23 (x23) (.cons 24 (x24) (.cons 28 (x28) (.cons 33 (x33) (.cons 50 (x50) (.cons 58 (x58) (.cons 80 (x80) (.cons 85 (x85) (.cons 103 (x103) (.cons 110 (x110) (.cons 140 (x140) (.cons 151 (x151) (.cons 171 (x171) (.cons 185 (x185) (.cons 199 (x199) (.cons 213 (x213) .nil)))))))))))))))))))))))))))))))))), ts⟩, [], h1⟩ ∧ (h1 = h)) ?_ ?_)
  · by_cases c : mid < m
    · have hc : ilt (Int.ofNat mid) (Int.ofNat m) = true := by rw [ilt_nat, dec_t c]
      refine Rs.cond rfl (fun _ => ?_) (fun e => absurd (e.symm.trans hc) (by simp))
      repeat (first | with_reducible refine Rs.seqA ?_ | with_reducible refine Rs.seqRegion ?_ | with_reducible refine Rs.seqSkip ?_ | with_reducible refine Rs.lastRegion ?_ | refine Sq.o rfl rfl (fun _ => rfl) rfl ?_ | refine Sq.off rfl rfl ?_ | refine Sq.nil ?_)
      refine Sq.a rfl rfl (op_sub rfl rfl (by omega) (by omega)) rfl ?_
      repeat (first | with_reducible refine Rs.seqA ?_ | with_reducible refine Rs.seqRegion ?_ | with_reducible refine Rs.seqSkip ?_ | with_reducible refine Rs.lastRegion ?_ | refine Sq.o rfl rfl (fun _ => rfl) rfl ?_ | refine Sq.off rfl rfl ?_ | refine Sq.nil ?_)
      have e1 : s0 = mid + m - b := by omega
      have e2 : r0 = mid := by omega
      rw [e1, e2]
      exact ⟨rfl, _, _, _, _, _, _, _, _, _, _, _, _, _, _, _, _, _, _, _, _, _, _, _, _, _, _, _, rfl, rfl⟩
    · have hc : ilt (Int.ofNat mid) (Int.ofNat m) = false := by rw [ilt_nat, dec_f c]
      refine Rs.cond rfl (fun e => absurd (e.symm.trans hc) (by simp)) (fun _ => ?_)
      repeat (first | with_reducible refine Rs.seqA ?_ | with_reducible refine Rs.seqRegion ?_ | with_reducible refine Rs.seqSkip ?_ | with_reducible refine Rs.lastRegion ?_ | refine Sq.o rfl rfl (fun _ => rfl) rfl ?_ | refine Sq.off rfl rfl ?_ | refine Sq.nil ?_)
      have e1 : s0 = a := by omega
      have e2 : r0 = m := by omega
      rw [e1, e2]
      exact ⟨rfl, _, _, _, _, _, _, _, _, _, _, _, _, _, _, _, _, _, _, _, _, _, _, _, _, _, _, _, rfl, rfl⟩
  rintro _ st ⟨rfl, h1, x10, x11, x12, x13, x14, x15, x16, x17, x22, x23, x24, x28, x33, x50, x58, x80, x85, x103, x110, x140, x151, x171, x185, x199, x213, ts, rfl, e1⟩

  subst e1
  show Rs EA _ _ _ _
  repeat (first | with_reducible refine Rs.seqA ?_ | with_reducible refine Rs.seqRegion ?_ | with_reducible refine Rs.seqSkip ?_ | with_reducible refine Rs.lastRegion ?_ | refine Sq.o rfl rfl (fun _ => rfl) rfl ?_ | refine Sq.off rfl rfl ?_ | refine Sq.nil ?_)
  refine Sq.a rfl rfl (op_sub (b := 1) rfl rfl (by omega) (by omega)) rfl ?_
  repeat (first | with_reducible refine Rs.seqA ?_ | with_reducible refine Rs.seqRegion ?_ | with_reducible refine Rs.seqSkip ?_ | with_reducible refine Rs.lastRegion ?_ | refine Sq.o rfl rfl (fun _ => rfl) rfl ?_ | refine Sq.off rfl rfl ?_ | refine Sq.nil ?_)
  refine Rs.seqLoop (fun k st => ∃ s r h2 x10 x11 x12 x13 x14 x15 x16 x17 x23 x24 x28 x33 x50 x58 x80 x85 x103 x110 x140 x151 x171 x185 x199 x213 ts, st = ⟨⟨(.cons 0 (dv bk N) (.cons 1 (.int .i64 (Int.ofNat a)) (.cons 2 (.int .i64 (Int.ofNat m)) (.cons 3 (.int .i64 (Int.ofNat b)) (.cons 4 (.func (.func 43) #[] #[]) (.cons 10 (x10) (.cons 11 (x11) (.cons 12 (x12) (.cons 13 (x13) (.cons 14 (x14) (.cons 15 (x15) (.cons 16 (x16) (.cons 17 (x17) (.cons 18 (.int .i64 (Int.ofNat mid)) (.cons 19 (.int .i64 (Int.ofNat (mid + m))) (.cons 20 (.int .i64 (Int.ofNat s)) (.cons 21 (.int .i64 (Int.ofNat r)) (.cons 22 (.int .i64 (Int.ofNat (mid + m - 1))) (.cons 23 (x23) (.cons 24 (x24) (.cons 28 (x28) (.cons 33 (x33) (.cons 50 (x50) (.cons 58 (x58) (.cons 80 (x80) (.cons 85 (x85) (.cons 103 (x103) (.cons 110 (x110) (.cons 140 (x140) (.cons 151 (x151) (.cons 171 (x171) (.cons 185 (x185) (.cons 199 (x199) (.cons 213 (x213) .nil)))))))))))))))))))))))))))))))))), ts⟩, [], h2⟩ ∧ (r - s = k) ∧ (s0 ≤ s ∧ s ≤ r ∧ r ≤ r0) ∧ (s = s0 ∨ Le (f (s - 1)) (f (mid + m - s))) ∧ (r = r0 ∨ Le (f (mid + m - 1 - r)) (f r)) ∧ (DV h2 bk N f) ∧ (KX bk h1 h2)) (fun st => ∃ s h2 x10 x11 x12 x13 x14 x15 x16 x17 x21 x22 x23 x24 x28 x33 x50 x58 x80 x85 x103 x110 x140 x151 x171 x185 x199 x213 ts, st = ⟨⟨(.cons 0 (dv bk N) (.cons 1 (.int .i64 (Int.ofNat a)) (.cons 2 (.int .i64 (Int.ofNat m)) (.cons 3 (.int .i64 (Int.ofNat b)) (.cons 4 (.func (.func 43) #[] #[]) (.cons 10 (x10) (.cons 11 (x11) (.cons 12 (x12) (.cons 13 (x13) (.cons 14 (x14) (.cons 15 (x15) (.cons 16 (x16) (.cons 17 (x17) (.cons 18 (.int .i64 (Int.ofNat mid)) (.cons 19 (.int .i64 (Int.ofNat (mid + m))) (.cons 20 (.int .i64 (Int.ofNat s)) (.cons 21 (x21) (.cons 22 (x22) (.cons 23 (x23) (.cons 24 (x24) (.cons 28 (x28) (.cons 33 (x33) (.cons 50 (x50) (.cons 58 (x58) (.cons 80 (x80) (.cons 85 (x85) (.cons 103 (x103) (.cons 110 (x110) (.cons 140 (x140) (.cons 151 (x151) (.cons 171 (x171) (.cons 185 (x185) (.cons 199 (x199) (.cons 213 (x213) .nil)))))))))))))))))))))))))))))))))), ts⟩, [], h2⟩ ∧ (s0 ≤ s ∧ s ≤ r0) ∧ (s = s0 ∨ Le (f (s - 1)) (f (mid + m - s))) ∧ (s = r0 ∨ Le (f (mid + m - 1 - s)) (f s)) ∧ (DV h2 bk N f) ∧ (KX bk h1 h2)) ?_ ?_ (r0 - s0) _ ⟨s0, r0, _, _, _, _, _, _, _, _, _, _, _, _, _, _, _, _, _, _, _, _, _, _, _, _, _, _, rfl, rfl, by omega, .inl rfl, .inl rfl, d, KX.refl w⟩
  · rintro k st ⟨s, r, h2, x10, x11, x12, x13, x14, x15, x16, x17, x23, x24, x28, x33, x50, x58, x80, x85, x103, x110, x140, x151, x171, x185, x199, x213, ts, rfl, hk, hs, ql, qr, d1, x1⟩
    repeat (first | with_reducible refine Rs.seqA ?_ | with_reducible refine Rs.seqRegion ?_ | with_reducible refine Rs.seqSkip ?_ | with_reducible refine Rs.lastRegion ?_ | refine Sq.o rfl rfl (fun _ => rfl) rfl ?_ | refine Sq.off rfl rfl ?_ | refine Sq.nil ?_)
    (first | rw [ilt_nat] | rw [ilt_oc] | rw [ilt_co] | rw [ilt_cc])
    by_cases hlt : s < r
    · rw [dec_t hlt]
      refine Rs.seqT rfl ?_
      repeat (first | with_reducible refine Rs.seqA ?_ | with_reducible refine Rs.seqRegion ?_ | with_reducible refine Rs.seqSkip ?_ | with_reducible refine Rs.lastRegion ?_ | refine Sq.o rfl rfl (fun _ => rfl) rfl ?_ | refine Sq.off rfl rfl ?_ | refine Sq.nil ?_)
      refine Rs.block ?_
      repeat (first | with_reducible refine Rs.seqA ?_ | with_reducible refine Rs.seqRegion ?_ | with_reducible refine Rs.seqSkip ?_ | with_reducible refine Rs.lastRegion ?_ | refine Sq.o rfl rfl (fun _ => rfl) rfl ?_ | refine Sq.off rfl rfl ?_ | refine Sq.nil ?_)
      refine Sq.a rfl rfl (op_add rfl rfl (by omega)) rfl ?_
      refine Sq.a rfl rfl (op_toU rfl (by omega)) rfl ?_
      refine Sq.a rfl rfl (op_half rfl rfl) rfl ?_
      refine Sq.a rfl rfl (op_toI rfl (by omega)) rfl ?_
      repeat (first | with_reducible refine Rs.seqA ?_ | with_reducible refine Rs.seqRegion ?_ | with_reducible refine Rs.seqSkip ?_ | with_reducible refine Rs.lastRegion ?_ | refine Sq.o rfl rfl (fun _ => rfl) rfl ?_ | refine Sq.off rfl rfl ?_ | refine Sq.nil ?_)
      have r1 := d1.row (mid + m - 1 - (s + r) / 2) (by omega)
      have r2 := d1.row ((s + r) / 2) (by omega)
      refine Rs.seqDraw (ord := [0, 1, 2, 3, 4, 5, 6, 7, 8, 9, 10, 11, 12, 13]) true x1.wf (by kernel_rfl) (by kernel_rfl) ?_
      repeat (first | refine Dr.c rfl rfl rfl rfl rfl rfl ?_ | refine Dr.off rfl rfl rfl ?_)
      refine Dr.o rfl rfl rfl (op_sub rfl rfl (by omega) (by omega)) rfl ?_
      refine Dr.o rfl rfl rfl (op_indexAddr rfl rfl (show mid + m - 1 - (s + r) / 2 < N by omega) rfl rfl) rfl ?_
      refine Dr.r rfl rfl rfl (d1.load (show mid + m - 1 - (s + r) / 2 < N by omega) rfl) rfl (veq_row r1.1) ?_
      repeat (first | refine Dr.c rfl rfl rfl rfl rfl rfl ?_ | refine Dr.off rfl rfl rfl ?_)
      refine Dr.o rfl rfl rfl (op_indexAddr rfl rfl (show (s + r) / 2 < N by omega) rfl rfl) rfl ?_
      refine Dr.r rfl rfl rfl (d1.load (show (s + r) / 2 < N by omega) rfl) rfl (veq_row r2.1) ?_
      refine Dr.call rfl rfl rfl rfl rfl (Cv.f ((run43 x1.wf r1.1 r2.1 r1.2 r2.2).mono fun v h3 hv => ?_))
      obtain ⟨rfl, g3⟩ := hv
      refine ⟨g3.size, g3.wf, fun _ => g3.keep, _, rfl, ?_⟩
      repeat (first | refine Dr.c rfl rfl rfl rfl rfl rfl ?_ | refine Dr.off rfl rfl rfl ?_)
      refine Dr.nil ?_
      have d3 := d1.keepX g3.keep
      have x3 := x1.trans (g3.kx bk)
      by_cases hlc : cmpR (f (mid + m - 1 - (s + r) / 2)).2 (f ((s + r) / 2)).2 < 0
      · have hc : (!ilt (cmpR (f (mid + m - 1 - (s + r) / 2)).2 (f ((s + r) / 2)).2) 0) = false := by rw [ilt_dec, dec_t hlc]; rfl
        refine Rs.cond rfl (fun e => absurd (e.symm.trans hc) (by simp)) (fun _ => ?_)
        repeat (first | with_reducible refine Rs.seqA ?_ | with_reducible refine Rs.seqRegion ?_ | with_reducible refine Rs.seqSkip ?_ | with_reducible refine Rs.lastRegion ?_ | refine Sq.o rfl rfl (fun _ => rfl) rfl ?_ | refine Sq.off rfl rfl ?_ | refine Sq.nil ?_)
        exact ⟨(s + r) / 2 - s, by omega, s, (s + r) / 2, h3, _, _, _, _, _, _, _, _, _, _, _, _, _, _, _, _, _, _, _, _, _, _, _, _, _, rfl, rfl, by omega, ql, .inr (le_of_lt hlc), d3, x3⟩
      · have hc : (!ilt (cmpR (f (mid + m - 1 - (s + r) / 2)).2 (f ((s + r) / 2)).2) 0) = true := by rw [ilt_dec, dec_f hlc]; rfl
        refine Rs.cond rfl (fun _ => ?_) (fun e => absurd (e.symm.trans hc) (by simp))
        repeat (first | with_reducible refine Rs.seqA ?_ | with_reducible refine Rs.seqRegion ?_ | with_reducible refine Rs.seqSkip ?_ | with_reducible refine Rs.lastRegion ?_ | refine Sq.o rfl rfl (fun _ => rfl) rfl ?_ | refine Sq.off rfl rfl ?_ | refine Sq.nil ?_)
        refine Sq.a rfl rfl (op_add (b := 1) rfl rfl (by omega)) rfl ?_
        repeat (first | with_reducible refine Rs.seqA ?_ | with_reducible refine Rs.seqRegion ?_ | with_reducible refine Rs.seqSkip ?_ | with_reducible refine Rs.lastRegion ?_ | refine Sq.o rfl rfl (fun _ => rfl) rfl ?_ | refine Sq.off rfl rfl ?_ | refine Sq.nil ?_)
        exact ⟨r - ((s + r) / 2 + 1), by omega, (s + r) / 2 + 1, r, h3, _, _, _, _, _, _, _, _, _, _, _, _, _, _, _, _, _, _, _, _, _, _, _, _, _, rfl, rfl, by omega, .inr (by rw [show (s + r) / 2 + 1 - 1 = (s + r) / 2 by omega, show mid + m - ((s + r) / 2 + 1) = mid + m - 1 - (s + r) / 2 by omega]; exact le_of_nlt hlc), qr, d3, x3⟩
    · rw [dec_f hlt]
      refine Rs.seqF rfl ?_
      refine Rs.seqExit ?_
      have e : r = s := by omega
      subst e
      exact ⟨rfl, _, h2, _, _, _, _, _, _, _, _, _, _, _, _, _, _, _, _, _, _, _, _, _, _, _, _, _, _, _, rfl, by omega, ql, qr, d1, x1⟩
  rintro st ⟨s, h2, x10, x11, x12, x13, x14, x15, x16, x17, x21, x22, x23, x24, x28, x33, x50, x58, x80, x85, x103, x110, x140, x151, x171, x185, x199, x213, ts, rfl, hs, ql, qr, d1, x1⟩
  repeat (first | with_reducible refine Rs.seqA ?_ | with_reducible refine Rs.seqRegion ?_ | with_reducible refine Rs.seqSkip ?_ | with_reducible refine Rs.lastRegion ?_ | refine Sq.o rfl rfl (fun _ => rfl) rfl ?_ | refine Sq.off rfl rfl ?_ | refine Sq.nil ?_)
  refine Sq.a rfl rfl (op_sub rfl rfl (by omega) (by omega)) rfl ?_
  have hc := cross (f := f) (s := s) ham hmb hmid.symm sl sr (by rw [← hs0]; exact hs.1) (by rw [← hr0]; exact hs.2) (by rw [← hs0]; exact ql) (by rw [← hr0]; exact qr)
  obtain ⟨o1, o2, o3, o4⟩ := rot_parts (mid := mid) (s := s) sl sr (by omega) (by omega) (by omega) (by omega)
  refine Sq.o rfl rfl (fun _ => rfl) rfl ?_
  refine Sq.nil ?_
  repeat (with_reducible refine Rs.seqA ?_)
  generalize he : mid + m - s = e at hc o1 o2 o3 o4 ⊢
  refine Rs.seqRegion (Sq.mono (Q := fun tm' h' => ∃ x10 x11 x12 x13 x14 x15 x16 x17 x19 x21 x22 x23 x28 x33 x50 x58 x80 x85 x103 x110 x140 x151 x171 x199 x213 ts, tm' = ⟨(.cons 0 (dv bk N) (.cons 1 (.int .i64 (Int.ofNat a)) (.cons 2 (.int .i64 (Int.ofNat m)) (.cons 3 (.int .i64 (Int.ofNat b)) (.cons 4 (.func (.func 43) #[] #[]) (.cons 10 (x10) (.cons 11 (x11) (.cons 12 (x12) (.cons 13 (x13) (.cons 14 (x14) (.cons 15 (x15) (.cons 16 (x16) (.cons 17 (x17) (.cons 18 (.int .i64 (Int.ofNat mid)) (.cons 19 (x19) (.cons 20 (.int .i64 (Int.ofNat s)) (.cons 21 (x21) (.cons 22 (x22) (.cons 23 (x23) (.cons 24 (.int .i64 (Int.ofNat e)) (.cons 28 (x28) (.cons 33 (x33) (.cons 50 (x50) (.cons 58 (x58) (.cons 80 (x80) (.cons 85 (x85) (.cons 103 (x103) (.cons 110 (x110) (.cons 140 (x140) (.cons 151 (x151) (.cons 171 (x171) (.cons 185 (.bool (decide (s < m) && decide (m < e))) (.cons 199 (x199) (.cons 213 (x213) .nil)))))))))))))))))))))))))))))))))), ts⟩ ∧ h' = h2 ∧ (True)) ?_ ?_)
  · repeat (first | with_reducible refine Rs.seqA ?_ | with_reducible refine Rs.seqRegion ?_ | with_reducible refine Rs.seqSkip ?_ | with_reducible refine Rs.lastRegion ?_ | refine Sq.o rfl rfl (fun _ => rfl) rfl ?_ | refine Sq.off rfl rfl ?_ | refine Sq.nil ?_)
    (first | rw [ilt_nat] | rw [ilt_oc] | rw [ilt_co] | rw [ilt_cc])
    by_cases c1 : s < m
    · rw [dec_t c1]
      repeat (first | with_reducible refine Rs.seqA ?_ | with_reducible refine Rs.seqRegion ?_ | with_reducible refine Rs.seqSkip ?_ | with_reducible refine Rs.lastRegion ?_ | refine Sq.o rfl rfl (fun _ => rfl) rfl ?_ | refine Sq.off rfl rfl ?_ | refine Sq.nil ?_)
      (first | rw [ilt_nat] | rw [ilt_oc] | rw [ilt_co] | rw [ilt_cc])
      repeat (first | with_reducible refine Rs.seqA ?_ | with_reducible refine Rs.seqRegion ?_ | with_reducible refine Rs.seqSkip ?_ | with_reducible refine Rs.lastRegion ?_ | refine Sq.o rfl rfl (fun _ => rfl) rfl ?_ | refine Sq.off rfl rfl ?_ | refine Sq.nil ?_)
      exact ⟨_, _, _, _, _, _, _, _, _, _, _, _, _, _, _, _, _, _, _, _, _, _, _, _, _, _, rfl, rfl, trivial⟩
    · rw [dec_f c1]
      repeat (first | with_reducible refine Rs.seqA ?_ | with_reducible refine Rs.seqRegion ?_ | with_reducible refine Rs.seqSkip ?_ | with_reducible refine Rs.lastRegion ?_ | refine Sq.o rfl rfl (fun _ => rfl) rfl ?_ | refine Sq.off rfl rfl ?_ | refine Sq.nil ?_)
      exact ⟨_, _, _, _, _, _, _, _, _, _, _, _, _, _, _, _, _, _, _, _, _, _, _, _, _, _, rfl, rfl, trivial⟩
  rintro _ h2 ⟨x10, x11, x12, x13, x14, x15, x16, x17, x19, x21, x22, x23, x28, x33, x50, x58, x80, x85, x103, x110, x140, x151, x171, x199, x213, ts, rfl, rfl, _⟩
  refine Rs.seq (Rs.mono (Q := fun x st => x = .normal ∧ ∃ h3 x10 x11 x12 x13 x14 x15 x16 x17 x19 x21 x22 x23 x28 x33 x50 x58 x80 x85 x103 x110 x140 x151 x171 x185 x199 x213 ts, st = ⟨⟨(.cons 0 (dv bk N) (.cons 1 (.int .i64 (Int.ofNat a)) (.cons 2 (.int .i64 (Int.ofNat m)) (.cons 3 (.int .i64 (Int.ofNat b)) (.cons 4 (.func (.func 43) #[] #[]) (.cons 10 (x10) (.cons 11 (x11) (.cons 12 (x12) (.cons 13 (x13) (.cons 14 (x14) (.cons 15 (x15) (.cons 16 (x16) (.cons 17 (x17) (.cons 18 (.int .i64 (Int.ofNat mid)) (.cons 19 (x19) (.cons 20 (.int .i64 (Int.ofNat s)) (.cons 21 (x21) (.cons 22 (x22) (.cons 23 (x23) (.cons 24 (.int .i64 (Int.ofNat e)) (.cons 28 (x28) (.cons 33 (x33) (.cons 50 (x50) (.cons 58 (x58) (.cons 80 (x80) (.cons 85 (x85) (.cons 103 (x103) (.cons 110 (x110) (.cons 140 (x140) (.cons 151 (x151) (.cons 171 (x171) (.cons 185 (x185) (.cons 199 (x199) (.cons 213 (x213) .nil)))))))))))))))))))))))))))))))))), ts⟩, [], h3⟩ ∧ (DV h3 bk N (Rot f s m e)) ∧ (SW a b f (Rot f s m e)) ∧ (KX bk h1 h3)) ?_ ?_)
  · by_cases c : s < m ∧ m < e
    · have hcc : (decide (s < m) && decide (m < e)) = true := by rw [dec_t c.1, dec_t c.2]; rfl
      refine Rs.cond rfl (fun _ => ?_) (fun e => absurd (e.symm.trans hcc) (by simp))
      repeat (first | with_reducible refine Rs.seqA ?_ | with_reducible refine Rs.seqRegion ?_ | with_reducible refine Rs.seqSkip ?_ | with_reducible refine Rs.lastRegion ?_ | refine Sq.o rfl rfl (fun _ => rfl) rfl ?_ | refine Sq.off rfl rfl ?_ | refine Sq.nil ?_)
      refine Sq.call rfl rfl rfl rfl (Cv.f ((run323 (f := f) x1.wf d1 hN c.1 c.2 (show e ≤ N by omega)).mono fun v h3 hv => ?_))
      obtain ⟨d3, k3⟩ := hv
      refine ⟨_, rfl, ?_⟩
      repeat (first | with_reducible refine Rs.seqA ?_ | with_reducible refine Rs.seqRegion ?_ | with_reducible refine Rs.seqSkip ?_ | with_reducible refine Rs.lastRegion ?_ | refine Sq.o rfl rfl (fun _ => rfl) rfl ?_ | refine Sq.off rfl rfl ?_ | refine Sq.nil ?_)
      have hsw := Rot_SW (lo := a) (hi := b) _ f m (m - s) (e - m) (Nat.le_refl _) (by omega) (by omega) (by omega) (by omega) (by omega)
      rw [show m - (m - s) = s by omega, show m + (e - m) = e by omega] at hsw
      exact ⟨rfl, h3, _, _, _, _, _, _, _, _, _, _, _, _, _, _, _, _, _, _, _, _, _, _, _, _, _, _, _, rfl, d3, hsw, x1.trans k3⟩
    · have hcc : (decide (s < m) && decide (m < e)) = false := by
        rw [Bool.and_eq_false_iff]
        by_cases c1 : s < m
        · exact .inr (dec_f fun c2 => c ⟨c1, c2⟩)
        · exact .inl (dec_f c1)
      refine Rs.cond rfl (fun e => absurd (e.symm.trans hcc) (by simp)) (fun _ => ?_)
      refine Rs.skip ?_
      have hid := rot_id f (s := s) (m := m) (e := e) (by omega) (by omega) (by omega)
      rw [hid]
      exact ⟨rfl, h2, _, _, _, _, _, _, _, _, _, _, _, _, _, _, _, _, _, _, _, _, _, _, _, _, _, _, _, rfl, d1, .refl f, x1⟩
  rintro _ st ⟨rfl, h3, x10, x11, x12, x13, x14, x15, x16, x17, x19, x21, x22, x23, x28, x33, x50, x58, x80, x85, x103, x110, x140, x151, x171, x185, x199, x213, ts, rfl, d3, s3, x3⟩

  show Rs EA _ _ _ _
  repeat (with_reducible refine Rs.seqA ?_)
  refine Rs.seqRegion (Sq.mono (Q := fun tm' h' => ∃ x10 x11 x12 x13 x14 x15 x16 x17 x19 x21 x22 x23 x28 x33 x50 x58 x80 x85 x103 x110 x140 x151 x171 x185 x213 ts, tm' = ⟨(.cons 0 (dv bk N) (.cons 1 (.int .i64 (Int.ofNat a)) (.cons 2 (.int .i64 (Int.ofNat m)) (.cons 3 (.int .i64 (Int.ofNat b)) (.cons 4 (.func (.func 43) #[] #[]) (.cons 10 (x10) (.cons 11 (x11) (.cons 12 (x12) (.cons 13 (x13) (.cons 14 (x14) (.cons 15 (x15) (.cons 16 (x16) (.cons 17 (x17) (.cons 18 (.int .i64 (Int.ofNat mid)) (.cons 19 (x19) (.cons 20 (.int .i64 (Int.ofNat s)) (.cons 21 (x21) (.cons 22 (x22) (.cons 23 (x23) (.cons 24 (.int .i64 (Int.ofNat e)) (.cons 28 (x28) (.cons 33 (x33) (.cons 50 (x50) (.cons 58 (x58) (.cons 80 (x80) (.cons 85 (x85) (.cons 103 (x103) (.cons 110 (x110) (.cons 140 (x140) (.cons 151 (x151) (.cons 171 (x171) (.cons 185 (x185) (.cons 199 (.bool (decide (a < s) && decide (s < mid))) (.cons 213 (x213) .nil)))))))))))))))))))))))))))))))))), ts⟩ ∧ h' = h3 ∧ (True)) ?_ ?_)
  · repeat (first | with_reducible refine Rs.seqA ?_ | with_reducible refine Rs.seqRegion ?_ | with_reducible refine Rs.seqSkip ?_ | with_reducible refine Rs.lastRegion ?_ | refine Sq.o rfl rfl (fun _ => rfl) rfl ?_ | refine Sq.off rfl rfl ?_ | refine Sq.nil ?_)
    (first | rw [ilt_nat] | rw [ilt_oc] | rw [ilt_co] | rw [ilt_cc])
    by_cases c1 : a < s
    · rw [dec_t c1]
      repeat (first | with_reducible refine Rs.seqA ?_ | with_reducible refine Rs.seqRegion ?_ | with_reducible refine Rs.seqSkip ?_ | with_reducible refine Rs.lastRegion ?_ | refine Sq.o rfl rfl (fun _ => rfl) rfl ?_ | refine Sq.off rfl rfl ?_ | refine Sq.nil ?_)
      (first | rw [ilt_nat] | rw [ilt_oc] | rw [ilt_co] | rw [ilt_cc])
      repeat (first | with_reducible refine Rs.seqA ?_ | with_reducible refine Rs.seqRegion ?_ | with_reducible refine Rs.seqSkip ?_ | with_reducible refine Rs.lastRegion ?_ | refine Sq.o rfl rfl (fun _ => rfl) rfl ?_ | refine Sq.off rfl rfl ?_ | refine Sq.nil ?_)
      exact ⟨_, _, _, _, _, _, _, _, _, _, _, _, _, _, _, _, _, _, _, _, _, _, _, _, _, _, rfl, rfl, trivial⟩
    · rw [dec_f c1]
      repeat (first | with_reducible refine Rs.seqA ?_ | with_reducible refine Rs.seqRegion ?_ | with_reducible refine Rs.seqSkip ?_ | with_reducible refine Rs.lastRegion ?_ | refine Sq.o rfl rfl (fun _ => rfl) rfl ?_ | refine Sq.off rfl rfl ?_ | refine Sq.nil ?_)
      exact ⟨_, _, _, _, _, _, _, _, _, _, _, _, _, _, _, _, _, _, _, _, _, _, _, _, _, _, rfl, rfl, trivial⟩
  rintro _ h3 ⟨x10, x11, x12, x13, x14, x15, x16, x17, x19, x21, x22, x23, x28, x33, x50, x58, x80, x85, x103, x110, x140, x151, x171, x185, x213, ts, rfl, rfl, _⟩
  refine Rs.seq (Rs.mono (Q := fun x st => x = .normal ∧ ∃ g4 h4 x10 x11 x12 x13 x14 x15 x16 x17 x19 x20 x21 x22 x23 x28 x33 x50 x58 x80 x85 x103 x110 x140 x151 x171 x185 x199 x213 ts, st = ⟨⟨(.cons 0 (dv bk N) (.cons 1 (.int .i64 (Int.ofNat a)) (.cons 2 (.int .i64 (Int.ofNat m)) (.cons 3 (.int .i64 (Int.ofNat b)) (.cons 4 (.func (.func 43) #[] #[]) (.cons 10 (x10) (.cons 11 (x11) (.cons 12 (x12) (.cons 13 (x13) (.cons 14 (x14) (.cons 15 (x15) (.cons 16 (x16) (.cons 17 (x17) (.cons 18 (.int .i64 (Int.ofNat mid)) (.cons 19 (x19) (.cons 20 (x20) (.cons 21 (x21) (.cons 22 (x22) (.cons 23 (x23) (.cons 24 (.int .i64 (Int.ofNat e)) (.cons 28 (x28) (.cons 33 (x33) (.cons 50 (x50) (.cons 58 (x58) (.cons 80 (x80) (.cons 85 (x85) (.cons 103 (x103) (.cons 110 (x110) (.cons 140 (x140) (.cons 151 (x151) (.cons 171 (x171) (.cons 185 (x185) (.cons 199 (x199) (.cons 213 (x213) .nil)))))))))))))))))))))))))))))))))), ts⟩, [], h4⟩ ∧ (DV h4 bk N g4) ∧ (SW a mid (Rot f s m e) g4) ∧ (Srt a mid g4) ∧ (KX bk h1 h4)) ?_ ?_)
  · by_cases c : a < s ∧ s < mid
    · have hcc : (decide (a < s) && decide (s < mid)) = true := by rw [dec_t c.1, dec_t c.2]; rfl
      refine Rs.cond rfl (fun _ => ?_) (fun e => absurd (e.symm.trans hcc) (by simp))
      repeat (first | with_reducible refine Rs.seqA ?_ | with_reducible refine Rs.seqRegion ?_ | with_reducible refine Rs.seqSkip ?_ | with_reducible refine Rs.lastRegion ?_ | refine Sq.o rfl rfl (fun _ => rfl) rfl ?_ | refine Sq.off rfl rfl ?_ | refine Sq.nil ?_)
      refine Sq.call rfl rfl rfl rfl (Cv.f ((ih (show mid - a ≤ n by omega) x3.wf d3 hN c.1 c.2 (show mid ≤ N by omega) o1 o2).mono fun v h4 hv => ?_))
      obtain ⟨g4, d4, s4, w4, k4⟩ := hv
      refine ⟨_, rfl, ?_⟩
      repeat (first | with_reducible refine Rs.seqA ?_ | with_reducible refine Rs.seqRegion ?_ | with_reducible refine Rs.seqSkip ?_ | with_reducible refine Rs.lastRegion ?_ | refine Sq.o rfl rfl (fun _ => rfl) rfl ?_ | refine Sq.off rfl rfl ?_ | refine Sq.nil ?_)
      exact ⟨rfl, g4, h4, _, _, _, _, _, _, _, _, _, _, _, _, _, _, _, _, _, _, _, _, _, _, _, _, _, _, _, _, rfl, d4, s4, w4, x3.trans k4⟩
    · have hcc : (decide (a < s) && decide (s < mid)) = false := by
        rw [Bool.and_eq_false_iff]
        by_cases c1 : a < s
        · exact .inr (dec_f fun c2 => c ⟨c1, c2⟩)
        · exact .inl (dec_f c1)
      refine Rs.cond rfl (fun e => absurd (e.symm.trans hcc) (by simp)) (fun _ => ?_)
      refine Rs.skip ?_
      exact ⟨rfl, Rot f s m e, h3, _, _, _, _, _, _, _, _, _, _, _, _, _, _, _, _, _, _, _, _, _, _, _, _, _, _, _, _, rfl, d3, .refl _, o1.join o2 (by omega), x3⟩
  rintro _ st ⟨rfl, g4, h4, x10, x11, x12, x13, x14, x15, x16, x17, x19, x20, x21, x22, x23, x28, x33, x50, x58, x80, x85, x103, x110, x140, x151, x171, x185, x199, x213, ts, rfl, d4, s4, w4, x4⟩

  show Rs EA _ _ _ _
  have p3 : Srt mid e g4 := o3.congr fun i q1 _ => s4.out (.inr q1)
  have p4 : Srt e b g4 := o4.congr fun i q1 _ => s4.out (.inr (by omega))
  repeat (with_reducible refine Rs.seqA ?_)
  refine Rs.seqRegion (Sq.mono (Q := fun tm' h' => ∃ x10 x11 x12 x13 x14 x15 x16 x17 x19 x20 x21 x22 x23 x28 x33 x50 x58 x80 x85 x103 x110 x140 x151 x171 x185 x199 ts, tm' = ⟨(.cons 0 (dv bk N) (.cons 1 (.int .i64 (Int.ofNat a)) (.cons 2 (.int .i64 (Int.ofNat m)) (.cons 3 (.int .i64 (Int.ofNat b)) (.cons 4 (.func (.func 43) #[] #[]) (.cons 10 (x10) (.cons 11 (x11) (.cons 12 (x12) (.cons 13 (x13) (.cons 14 (x14) (.cons 15 (x15) (.cons 16 (x16) (.cons 17 (x17) (.cons 18 (.int .i64 (Int.ofNat mid)) (.cons 19 (x19) (.cons 20 (x20) (.cons 21 (x21) (.cons 22 (x22) (.cons 23 (x23) (.cons 24 (.int .i64 (Int.ofNat e)) (.cons 28 (x28) (.cons 33 (x33) (.cons 50 (x50) (.cons 58 (x58) (.cons 80 (x80) (.cons 85 (x85) (.cons 103 (x103) (.cons 110 (x110) (.cons 140 (x140) (.cons 151 (x151) (.cons 171 (x171) (.cons 185 (x185) (.cons 199 (x199) (.cons 213 (.bool (decide (mid < e) && decide (e < b))) .nil)))))))))))))))))))))))))))))))))), ts⟩ ∧ h' = h4 ∧ (True)) ?_ ?_)
  · repeat (first | with_reducible refine Rs.seqA ?_ | with_reducible refine Rs.seqRegion ?_ | with_reducible refine Rs.seqSkip ?_ | with_reducible refine Rs.lastRegion ?_ | refine Sq.o rfl rfl (fun _ => rfl) rfl ?_ | refine Sq.off rfl rfl ?_ | refine Sq.nil ?_)
    (first | rw [ilt_nat] | rw [ilt_oc] | rw [ilt_co] | rw [ilt_cc])
    by_cases c1 : mid < e
    · rw [dec_t c1]
      repeat (first | with_reducible refine Rs.seqA ?_ | with_reducible refine Rs.seqRegion ?_ | with_reducible refine Rs.seqSkip ?_ | with_reducible refine Rs.lastRegion ?_ | refine Sq.o rfl rfl (fun _ => rfl) rfl ?_ | refine Sq.off rfl rfl ?_ | refine Sq.nil ?_)
      (first | rw [ilt_nat] | rw [ilt_oc] | rw [ilt_co] | rw [ilt_cc])
      repeat (first | with_reducible refine Rs.seqA ?_ | with_reducible refine Rs.seqRegion ?_ | with_reducible refine Rs.seqSkip ?_ | with_reducible refine Rs.lastRegion ?_ | refine Sq.o rfl rfl (fun _ => rfl) rfl ?_ | refine Sq.off rfl rfl ?_ | refine Sq.nil ?_)
      exact ⟨_, _, _, _, _, _, _, _, _, _, _, _, _, _, _, _, _, _, _, _, _, _, _, _, _, _, _, rfl, rfl, trivial⟩
    · rw [dec_f c1]
      repeat (first | with_reducible refine Rs.seqA ?_ | with_reducible refine Rs.seqRegion ?_ | with_reducible refine Rs.seqSkip ?_ | with_reducible refine Rs.lastRegion ?_ | refine Sq.o rfl rfl (fun _ => rfl) rfl ?_ | refine Sq.off rfl rfl ?_ | refine Sq.nil ?_)
      exact ⟨_, _, _, _, _, _, _, _, _, _, _, _, _, _, _, _, _, _, _, _, _, _, _, _, _, _, _, rfl, rfl, trivial⟩
  rintro _ h4 ⟨x10, x11, x12, x13, x14, x15, x16, x17, x19, x20, x21, x22, x23, x28, x33, x50, x58, x80, x85, x103, x110, x140, x151, x171, x185, x199, ts, rfl, rfl, _⟩
  by_cases c : mid < e ∧ e < b
  · have hcc : (decide (mid < e) && decide (e < b)) = true := by rw [dec_t c.1, dec_t c.2]; rfl
    refine Rs.cond rfl (fun _ => ?_) (fun e => absurd (e.symm.trans hcc) (by simp))
    repeat (first | with_reducible refine Rs.seqA ?_ | with_reducible refine Rs.seqRegion ?_ | with_reducible refine Rs.seqSkip ?_ | with_reducible refine Rs.lastRegion ?_ | refine Sq.o rfl rfl (fun _ => rfl) rfl ?_ | refine Sq.off rfl rfl ?_ | refine Sq.nil ?_)
    refine Sq.call rfl rfl rfl rfl (Cv.f ((ih (show b - mid ≤ n by omega) x4.wf d4 hN c.1 c.2 hb p3 p4).mono fun v h5 hv => ?_))
    obtain ⟨g5, d5, s5, w5, k5⟩ := hv
    refine ⟨_, rfl, ?_⟩
    repeat (first | with_reducible refine Rs.seqA ?_ | with_reducible refine Rs.seqRegion ?_ | with_reducible refine Rs.seqSkip ?_ | with_reducible refine Rs.lastRegion ?_ | refine Sq.o rfl rfl (fun _ => rfl) rfl ?_ | refine Sq.off rfl rfl ?_ | refine Sq.nil ?_)
    exact ⟨.inl rfl, _, _, _, rfl, rfl, rfl, g5, d5, (s3.trans (s4.mono (Nat.le_refl _) (by omega))).trans (s5.mono (by omega) (Nat.le_refl _)), merge_final hc s4 w4 s5 w5, x4.trans k5⟩
  · have hcc : (decide (mid < e) && decide (e < b)) = false := by
      rw [Bool.and_eq_false_iff]
      by_cases c1 : mid < e
      · exact .inr (dec_f fun c2 => c ⟨c1, c2⟩)
      · exact .inl (dec_f c1)
    refine Rs.cond rfl (fun e => absurd (e.symm.trans hcc) (by simp)) (fun _ => ?_)
    refine Rs.skip ?_
    exact ⟨.inl rfl, _, _, _, rfl, rfl, rfl, g4, d4, s3.trans (s4.mono (Nat.le_refl _) (by omega)), merge_final hc s4 w4 (.refl _) (p3.join p4 (by omega)), x4⟩
end Go.RA
