/-
  What the functions of the law, and at last the law itself, compute, over the evaluator: it returns true. No condition.
-/
import Derived.Test.YtcbdnkbdpdppcaaGreatDoorSd3
namespace Go.RA
set_option maxRecDepth 100000

theorem op_mul {cx : Cx} {tm : Fr} {h : AH} {t ty : TypeId} {x y : Operand} {a b : Nat} (hx : opnd cx tm x = some (.int .i64 (Int.ofNat a))) (hy : opnd cx tm y = some (.int .i64 (Int.ofNat b))) (hi : a * b < 9223372036854775808) :
    aOp EA cx (.binOp .mul t x y ty) tm h = some (.int .i64 (Int.ofNat (a * b)), h) := by
  have e : Int.ofNat a * Int.ofNat b = Int.ofNat (a * b) := rfl
  have : (IntKind.i64 == IntKind.i64) = true := rfl
  simp only [aOp, hx, hy, Option.bind_some, aBin, this, cond_true, e, fwrap_nat hi, Option.map_some]
def AllB (bs n : Nat) (f : Nat → Pr) : Prop := ∀ k, Srt (k * bs) (min (k * bs + bs) n) f
theorem mul_2q (q bs : Nat) : 2 * q * bs = q * (bs + bs) := by rw [Nat.mul_assoc, Nat.mul_add]; omega
theorem mul_2q1 (q bs : Nat) : (2 * q + 1) * bs = q * (bs + bs) + bs := by rw [Nat.add_mul, mul_2q]; omega
set_option maxHeartbeats 1000000 in
theorem run176 {h : AH} {bk N : Nat} {f : Nat → Pr} (w : h.WF) (d : DV h bk N f) (hN : N < 1000000) :
    Cl EA 176 [dv bk N, .int .i64 (Int.ofNat N), .func (.func 43) #[] #[]] h (fun _ h' => ∃ g, DV h' bk N g ∧ SW 0 N f g ∧ Srt 0 N g ∧ KX bk h h') := by
  refine Cl.fn Go.Proofs.Tryz.f176 63 18014433942971335 [] rfl rfl (by kernel_rfl) rfl rfl (by kernel_rfl) rfl rfl ?_
  repeat (first | with_reducible refine Rs.seqA ?_ | with_reducible refine Rs.seqRegion ?_ | with_reducible refine Rs.seqSkip ?_ | with_reducible refine Rs.lastRegion ?_ | refine Sq.o rfl rfl (fun _ => rfl) rfl ?_ | refine Sq.off rfl rfl ?_ | refine Sq.nil ?_)
  refine Rs.seqLoop (fun k st => ∃ q g h1 x9 x13 x30 x35 x54 ts, st = ⟨⟨(.cons 0 (dv bk N) (.cons 1 (.int .i64 (Int.ofNat N)) (.cons 2 (.func (.func 43) #[] #[]) (.cons 6 (.int .i64 (Int.ofNat 20)) (.cons 7 (.int .i64 (Int.ofNat (q * 20))) (.cons 8 (.int .i64 (Int.ofNat (q * 20 + 20))) (.cons 9 (x9) (.cons 13 (x13) (.cons 30 (x30) (.cons 35 (x35) (.cons 54 (x54) .nil))))))))))), ts⟩, [], h1⟩ ∧ (N - q * 20 = k) ∧ (q * 20 ≤ N) ∧ (∀ k, k < q → Srt (k * 20) (k * 20 + 20) g) ∧ (SW 0 N f g) ∧ (DV h1 bk N g) ∧ (KX bk h h1)) (fun st => ∃ q g h1 x8 x9 x13 x30 x35 x54 ts, st = ⟨⟨(.cons 0 (dv bk N) (.cons 1 (.int .i64 (Int.ofNat N)) (.cons 2 (.func (.func 43) #[] #[]) (.cons 6 (.int .i64 (Int.ofNat 20)) (.cons 7 (.int .i64 (Int.ofNat (q * 20))) (.cons 8 (x8) (.cons 9 (x9) (.cons 13 (x13) (.cons 30 (x30) (.cons 35 (x35) (.cons 54 (x54) .nil))))))))))), ts⟩, [], h1⟩ ∧ (q * 20 ≤ N ∧ N < q * 20 + 20) ∧ (∀ k, k < q → Srt (k * 20) (k * 20 + 20) g) ∧ (SW 0 N f g) ∧ (DV h1 bk N g) ∧ (KX bk h h1)) ?_ ?_ (N) _ ⟨0, f, _, _, _, _, _, _, _, rfl, by omega, by omega, (fun k hk => by omega), .refl f, d, KX.refl w⟩
  · rintro k st ⟨q, g, h1, x9, x13, x30, x35, x54, ts, rfl, hk, hq, hb, s1, d1, x1⟩
    repeat (first | with_reducible refine Rs.seqA ?_ | with_reducible refine Rs.seqRegion ?_ | with_reducible refine Rs.seqSkip ?_ | with_reducible refine Rs.lastRegion ?_ | refine Sq.o rfl rfl (fun _ => rfl) rfl ?_ | refine Sq.off rfl rfl ?_ | refine Sq.nil ?_)
    (first | rw [ilt_nat] | rw [ilt_oc] | rw [ilt_co] | rw [ilt_cc])
    by_cases hc : N < q * 20 + 20
    · rw [dec_t hc]
      refine Rs.seqF rfl ?_
      refine Rs.seqExit ?_
      exact ⟨rfl, q, g, h1, _, _, _, _, _, _, _, rfl, ⟨hq, hc⟩, hb, s1, d1, x1⟩
    · rw [dec_f hc]
      refine Rs.seqT rfl ?_
      repeat (first | with_reducible refine Rs.seqA ?_ | with_reducible refine Rs.seqRegion ?_ | with_reducible refine Rs.seqSkip ?_ | with_reducible refine Rs.lastRegion ?_ | refine Sq.o rfl rfl (fun _ => rfl) rfl ?_ | refine Sq.off rfl rfl ?_ | refine Sq.nil ?_)
      refine Rs.block ?_
      repeat (first | with_reducible refine Rs.seqA ?_ | with_reducible refine Rs.seqRegion ?_ | with_reducible refine Rs.seqSkip ?_ | with_reducible refine Rs.lastRegion ?_ | refine Sq.o rfl rfl (fun _ => rfl) rfl ?_ | refine Sq.off rfl rfl ?_ | refine Sq.nil ?_)
      refine Sq.call rfl rfl rfl rfl (Cv.f ((run228 (f := g) x1.wf d1 hN (show q * 20 ≤ q * 20 + 20 by omega) (show q * 20 + 20 ≤ N by omega)).mono fun v h2 hv => ?_))
      obtain ⟨g2, d2, s2, o2, k2⟩ := hv
      refine ⟨_, rfl, ?_⟩
      repeat (first | with_reducible refine Rs.seqA ?_ | with_reducible refine Rs.seqRegion ?_ | with_reducible refine Rs.seqSkip ?_ | with_reducible refine Rs.lastRegion ?_ | refine Sq.o rfl rfl (fun _ => rfl) rfl ?_ | refine Sq.off rfl rfl ?_ | refine Sq.nil ?_)
      refine Sq.a rfl rfl (op_add rfl rfl (by omega)) rfl ?_
      repeat (first | with_reducible refine Rs.seqA ?_ | with_reducible refine Rs.seqRegion ?_ | with_reducible refine Rs.seqSkip ?_ | with_reducible refine Rs.lastRegion ?_ | refine Sq.o rfl rfl (fun _ => rfl) rfl ?_ | refine Sq.off rfl rfl ?_ | refine Sq.nil ?_)
      refine ⟨N - (q * 20 + 20), by omega, ?_⟩
      have e : q * 20 + 20 = (q + 1) * 20 := by omega
      rw [e]
      exact ⟨q + 1, g2, h2, _, _, _, _, _, _, rfl, rfl, by omega, (fun k hk => by
        by_cases c : k = q
        · subst c; exact o2
        · exact (hb k (by omega)).congr fun i _ h3 => s2.out (.inl (by omega))), s1.trans (s2.mono (by omega) (by omega)), d2, x1.trans k2⟩
  · rintro st ⟨q, g, h1, x8, x9, x13, x30, x35, x54, ts, rfl, hq, hb, s1, d1, x1⟩
    repeat (first | with_reducible refine Rs.seqA ?_ | with_reducible refine Rs.seqRegion ?_ | with_reducible refine Rs.seqSkip ?_ | with_reducible refine Rs.lastRegion ?_ | refine Sq.o rfl rfl (fun _ => rfl) rfl ?_ | refine Sq.off rfl rfl ?_ | refine Sq.nil ?_)
    refine Sq.call rfl rfl rfl rfl (Cv.f ((run228 (f := g) x1.wf d1 hN (show q * 20 ≤ N by omega) (Nat.le_refl N)).mono fun v h2 hv => ?_))
    obtain ⟨g2, d2, s2, o2, k2⟩ := hv
    refine ⟨_, rfl, ?_⟩
    have hall : AllB 20 N g2 := fun k => by
      by_cases c1 : k < q
      · rw [Nat.min_eq_left (by omega)]
        exact (hb k c1).congr fun i _ h3 => s2.out (.inl (by omega))
      · by_cases c2 : k = q
        · subst c2; rw [Nat.min_eq_right (by omega)]; exact o2
        · intro i j h3 h4 h5; omega
    have sg := s1.trans (s2.mono (show 0 ≤ q * 20 by omega) (Nat.le_refl N))
    have xg := x1.trans k2
    repeat (first | with_reducible refine Rs.seqA ?_ | with_reducible refine Rs.seqRegion ?_ | with_reducible refine Rs.seqSkip ?_ | with_reducible refine Rs.lastRegion ?_ | refine Sq.o rfl rfl (fun _ => rfl) rfl ?_ | refine Sq.off rfl rfl ?_ | refine Sq.nil ?_)
    refine Rs.lastLoop (fun k st => ∃ bs g3 h3 x7 x8 x9 x13 x30 x35 x54 ts, st = ⟨⟨(.cons 0 (dv bk N) (.cons 1 (.int .i64 (Int.ofNat N)) (.cons 2 (.func (.func 43) #[] #[]) (.cons 6 (.int .i64 (Int.ofNat bs)) (.cons 7 (x7) (.cons 8 (x8) (.cons 9 (x9) (.cons 13 (x13) (.cons 30 (x30) (.cons 35 (x35) (.cons 54 (x54) .nil))))))))))), ts⟩, [], h3⟩ ∧ (N - bs = k) ∧ (1 ≤ bs) ∧ (AllB bs N g3) ∧ (SW 0 N f g3) ∧ (DV h3 bk N g3) ∧ (KX bk h h3)) (fun st => ∃ g3 h3 x1 x2 x6 x7 x8 x9 x13 x30 x35 x54 ts, st = ⟨⟨(.cons 0 (dv bk N) (.cons 1 (x1) (.cons 2 (x2) (.cons 6 (x6) (.cons 7 (x7) (.cons 8 (x8) (.cons 9 (x9) (.cons 13 (x13) (.cons 30 (x30) (.cons 35 (x35) (.cons 54 (x54) .nil))))))))))), ts⟩, [], h3⟩ ∧ (Srt 0 N g3) ∧ (SW 0 N f g3) ∧ (DV h3 bk N g3) ∧ (KX bk h h3)) ?_ ?_ (N - 20) _ ⟨20, g2, _, _, _, _, _, _, _, _, _, rfl, rfl, by omega, hall, sg, d2, xg⟩
    · rintro k st ⟨bs, g3, h3, x7, x8, x9, x13, x30, x35, x54, ts, rfl, hk, hbs, ha, s3, d3, x3⟩
      repeat (first | with_reducible refine Rs.seqA ?_ | with_reducible refine Rs.seqRegion ?_ | with_reducible refine Rs.seqSkip ?_ | with_reducible refine Rs.lastRegion ?_ | refine Sq.o rfl rfl (fun _ => rfl) rfl ?_ | refine Sq.off rfl rfl ?_ | refine Sq.nil ?_)
      (first | rw [ilt_nat] | rw [ilt_oc] | rw [ilt_co] | rw [ilt_cc])
      by_cases hc : bs < N
      · rw [dec_t hc]
        refine Rs.seqT rfl ?_
        repeat (first | with_reducible refine Rs.seqA ?_ | with_reducible refine Rs.seqRegion ?_ | with_reducible refine Rs.seqSkip ?_ | with_reducible refine Rs.lastRegion ?_ | refine Sq.o rfl rfl (fun _ => rfl) rfl ?_ | refine Sq.off rfl rfl ?_ | refine Sq.nil ?_)
        refine Rs.block ?_
        repeat (first | with_reducible refine Rs.seqA ?_ | with_reducible refine Rs.seqRegion ?_ | with_reducible refine Rs.seqSkip ?_ | with_reducible refine Rs.lastRegion ?_ | refine Sq.o rfl rfl (fun _ => rfl) rfl ?_ | refine Sq.off rfl rfl ?_ | refine Sq.nil ?_)
        refine Sq.a rfl rfl (op_mul (a := 2) rfl rfl (by omega)) rfl ?_
        repeat (first | with_reducible refine Rs.seqA ?_ | with_reducible refine Rs.seqRegion ?_ | with_reducible refine Rs.seqSkip ?_ | with_reducible refine Rs.lastRegion ?_ | refine Sq.o rfl rfl (fun _ => rfl) rfl ?_ | refine Sq.off rfl rfl ?_ | refine Sq.nil ?_)
        refine Rs.seqLoop (fun k st => ∃ q A B8 g4 h4 x9 x13 x30 x35 x54 ts, st = ⟨⟨(.cons 0 (dv bk N) (.cons 1 (.int .i64 (Int.ofNat N)) (.cons 2 (.func (.func 43) #[] #[]) (.cons 6 (.int .i64 (Int.ofNat bs)) (.cons 7 (.int .i64 (Int.ofNat A)) (.cons 8 (.int .i64 (Int.ofNat B8)) (.cons 9 (x9) (.cons 13 (x13) (.cons 30 (x30) (.cons 35 (x35) (.cons 54 (x54) .nil))))))))))), ts⟩, [], h4⟩ ∧ (A = q * (bs + bs)) ∧ (B8 = A + 2 * bs) ∧ (N - q * (bs + bs) = k) ∧ (q * (bs + bs) ≤ N) ∧ (∀ k, k < q → Srt (k * (bs + bs)) (k * (bs + bs) + (bs + bs)) g4) ∧ (∀ k, 2 * q ≤ k → Srt (k * bs) (min (k * bs + bs) N) g4) ∧ (SW 0 N f g4) ∧ (DV h4 bk N g4) ∧ (KX bk h h4)) (fun st => ∃ q g4 h4 x8 x9 x13 x30 x35 x54 ts, st = ⟨⟨(.cons 0 (dv bk N) (.cons 1 (.int .i64 (Int.ofNat N)) (.cons 2 (.func (.func 43) #[] #[]) (.cons 6 (.int .i64 (Int.ofNat bs)) (.cons 7 (.int .i64 (Int.ofNat (q * (bs + bs)))) (.cons 8 (x8) (.cons 9 (x9) (.cons 13 (x13) (.cons 30 (x30) (.cons 35 (x35) (.cons 54 (x54) .nil))))))))))), ts⟩, [], h4⟩ ∧ (q * (bs + bs) ≤ N ∧ N < q * (bs + bs) + 2 * bs) ∧ (∀ k, k < q → Srt (k * (bs + bs)) (k * (bs + bs) + (bs + bs)) g4) ∧ (∀ k, 2 * q ≤ k → Srt (k * bs) (min (k * bs + bs) N) g4) ∧ (SW 0 N f g4) ∧ (DV h4 bk N g4) ∧ (KX bk h h4)) ?_ ?_ (N) _ ⟨0, 0, 2 * bs, g3, _, _, _, _, _, _, _, rfl, by omega, by omega, by omega, by omega, (fun k hk => by omega), (fun k _ => ha k), s3, d3, x3⟩
        · rintro k st ⟨q, A, B8, g4, h4, x9, x13, x30, x35, x54, ts, rfl, hA, hB8, hk4, hq, hb4, hr4, s4, d4, x4⟩
          subst hB8
          subst hA
          repeat (first | with_reducible refine Rs.seqA ?_ | with_reducible refine Rs.seqRegion ?_ | with_reducible refine Rs.seqSkip ?_ | with_reducible refine Rs.lastRegion ?_ | refine Sq.o rfl rfl (fun _ => rfl) rfl ?_ | refine Sq.off rfl rfl ?_ | refine Sq.nil ?_)
          (first | rw [ilt_nat] | rw [ilt_oc] | rw [ilt_co] | rw [ilt_cc])
          by_cases hc4 : N < q * (bs + bs) + 2 * bs
          · rw [dec_t hc4]
            refine Rs.seqF rfl ?_
            refine Rs.seqExit ?_
            exact ⟨rfl, q, g4, h4, _, _, _, _, _, _, _, rfl, ⟨hq, hc4⟩, hb4, hr4, s4, d4, x4⟩
          · rw [dec_f hc4]
            refine Rs.seqT rfl ?_
            repeat (first | with_reducible refine Rs.seqA ?_ | with_reducible refine Rs.seqRegion ?_ | with_reducible refine Rs.seqSkip ?_ | with_reducible refine Rs.lastRegion ?_ | refine Sq.o rfl rfl (fun _ => rfl) rfl ?_ | refine Sq.off rfl rfl ?_ | refine Sq.nil ?_)
            refine Rs.block ?_
            repeat (first | with_reducible refine Rs.seqA ?_ | with_reducible refine Rs.seqRegion ?_ | with_reducible refine Rs.seqSkip ?_ | with_reducible refine Rs.lastRegion ?_ | refine Sq.o rfl rfl (fun _ => rfl) rfl ?_ | refine Sq.off rfl rfl ?_ | refine Sq.nil ?_)
            refine Sq.a rfl rfl (op_add rfl rfl (by omega)) rfl ?_
            repeat (first | with_reducible refine Rs.seqA ?_ | with_reducible refine Rs.seqRegion ?_ | with_reducible refine Rs.seqSkip ?_ | with_reducible refine Rs.lastRegion ?_ | refine Sq.o rfl rfl (fun _ => rfl) rfl ?_ | refine Sq.off rfl rfl ?_ | refine Sq.nil ?_)
            have sl := hr4 (2 * q) (Nat.le_refl _)
            have sr := hr4 (2 * q + 1) (by omega)
            rw [mul_2q, Nat.min_eq_left (by omega)] at sl
            rw [mul_2q1, Nat.min_eq_left (by omega)] at sr
            have sr2 : Srt (q * (bs + bs) + bs) (q * (bs + bs) + 2 * bs) g4 := by
              rw [show q * (bs + bs) + 2 * bs = q * (bs + bs) + bs + bs by omega]; exact sr
            refine Sq.call rfl rfl rfl rfl (Cv.f ((run259 _ (f := g4) (Nat.le_refl _) x4.wf d4 hN (show q * (bs + bs) < q * (bs + bs) + bs by omega) (show q * (bs + bs) + bs < q * (bs + bs) + 2 * bs by omega) (show q * (bs + bs) + 2 * bs ≤ N by omega) sl sr2).mono fun v h5 hv => ?_))
            obtain ⟨g5, d5, s5, o5, k5⟩ := hv
            refine ⟨_, rfl, ?_⟩
            repeat (first | with_reducible refine Rs.seqA ?_ | with_reducible refine Rs.seqRegion ?_ | with_reducible refine Rs.seqSkip ?_ | with_reducible refine Rs.lastRegion ?_ | refine Sq.o rfl rfl (fun _ => rfl) rfl ?_ | refine Sq.off rfl rfl ?_ | refine Sq.nil ?_)
            refine Sq.a rfl rfl (op_mul (a := 2) rfl rfl (by omega)) rfl ?_
            refine Sq.a rfl rfl (op_add rfl rfl (by omega)) rfl ?_
            repeat (first | with_reducible refine Rs.seqA ?_ | with_reducible refine Rs.seqRegion ?_ | with_reducible refine Rs.seqSkip ?_ | with_reducible refine Rs.lastRegion ?_ | refine Sq.o rfl rfl (fun _ => rfl) rfl ?_ | refine Sq.off rfl rfl ?_ | refine Sq.nil ?_)
            have e : q * (bs + bs) + 2 * bs = (q + 1) * (bs + bs) := by rw [Nat.add_mul]; omega
            refine ⟨N - (q * (bs + bs) + 2 * bs), by omega, ?_⟩
            rw [e] at s5 o5 hc4 ⊢
            exact ⟨q + 1, _, _, g5, h5, _, _, _, _, _, _, rfl, rfl, rfl, rfl, by omega, (fun k hk => by
              by_cases c : k = q
              · subst c
                rw [show k * (bs + bs) + (bs + bs) = (k + 1) * (bs + bs) by rw [Nat.add_mul]; omega]
                exact o5
              · have := Nat.mul_le_mul_right (bs + bs) (show k + 1 ≤ q by omega)
                rw [Nat.add_mul] at this
                exact (hb4 k (by omega)).congr fun i _ h3 => s5.out (.inl (by omega))), (fun k hk => by
              have := Nat.mul_le_mul_right bs hk
              rw [mul_2q] at this
              exact (hr4 k (by omega)).congr fun i h3 _ => s5.out (.inr (by omega))), s4.trans (s5.mono (by omega) (by omega)), d5, x4.trans k5⟩
        · rintro st ⟨q, g4, h4, x8, x9, x13, x30, x35, x54, ts, rfl, hq, hb4, hr4, s4, d4, x4⟩
          repeat (first | with_reducible refine Rs.seqA ?_ | with_reducible refine Rs.seqRegion ?_ | with_reducible refine Rs.seqSkip ?_ | with_reducible refine Rs.lastRegion ?_ | refine Sq.o rfl rfl (fun _ => rfl) rfl ?_ | refine Sq.off rfl rfl ?_ | refine Sq.nil ?_)
          refine Sq.a rfl rfl (op_add rfl rfl (by omega)) rfl ?_
          repeat (first | with_reducible refine Rs.seqA ?_ | with_reducible refine Rs.seqRegion ?_ | with_reducible refine Rs.seqSkip ?_ | with_reducible refine Rs.lastRegion ?_ | refine Sq.o rfl rfl (fun _ => rfl) rfl ?_ | refine Sq.off rfl rfl ?_ | refine Sq.nil ?_)
          have sl := hr4 (2 * q) (Nat.le_refl _)
          have sr := hr4 (2 * q + 1) (by omega)
          rw [mul_2q] at sl
          rw [mul_2q1] at sr
          have done : ∀ g6, SW (q * (bs + bs)) N g4 g6 → Srt (q * (bs + bs)) N g6 → AllB (bs * 2) N g6 := fun g6 s6 o6 k => by
            rw [show bs * 2 = bs + bs by omega]
            by_cases c1 : k < q
            · have := Nat.mul_le_mul_right (bs + bs) (show k + 1 ≤ q by omega)
              rw [Nat.add_mul] at this
              rw [Nat.min_eq_left (by omega)]
              exact (hb4 k c1).congr fun i _ h3 => s6.out (.inl (by omega))
            · by_cases c2 : k = q
              · subst c2; rw [Nat.min_eq_right (by omega)]; exact o6
              · have := Nat.mul_le_mul_right (bs + bs) (show q + 1 ≤ k by omega)
                rw [Nat.add_mul] at this
                intro i j h3 h4 h5; omega
          (first | rw [ilt_nat] | rw [ilt_oc] | rw [ilt_co] | rw [ilt_cc])
          by_cases hm : q * (bs + bs) + bs < N
          · rw [dec_t hm]
            refine Rs.seqT rfl ?_
            repeat (first | with_reducible refine Rs.seqA ?_ | with_reducible refine Rs.seqRegion ?_ | with_reducible refine Rs.seqSkip ?_ | with_reducible refine Rs.lastRegion ?_ | refine Sq.o rfl rfl (fun _ => rfl) rfl ?_ | refine Sq.off rfl rfl ?_ | refine Sq.nil ?_)
            rw [Nat.min_eq_left (by omega)] at sl
            rw [Nat.min_eq_right (by omega)] at sr
            refine Sq.call rfl rfl rfl rfl (Cv.f ((run259 _ (f := g4) (Nat.le_refl _) x4.wf d4 hN (show q * (bs + bs) < q * (bs + bs) + bs by omega) hm (Nat.le_refl N) sl sr).mono fun v h5 hv => ?_))
            obtain ⟨g5, d5, s5, o5, k5⟩ := hv
            refine ⟨_, rfl, ?_⟩
            repeat (first | with_reducible refine Rs.seqA ?_ | with_reducible refine Rs.seqRegion ?_ | with_reducible refine Rs.seqSkip ?_ | with_reducible refine Rs.lastRegion ?_ | refine Sq.o rfl rfl (fun _ => rfl) rfl ?_ | refine Sq.off rfl rfl ?_ | refine Sq.nil ?_)
            refine Sq.a rfl rfl (op_mul (b := 2) rfl rfl (by omega)) rfl ?_
            repeat (first | with_reducible refine Rs.seqA ?_ | with_reducible refine Rs.seqRegion ?_ | with_reducible refine Rs.seqSkip ?_ | with_reducible refine Rs.lastRegion ?_ | refine Sq.o rfl rfl (fun _ => rfl) rfl ?_ | refine Sq.off rfl rfl ?_ | refine Sq.nil ?_)
            exact ⟨N - bs * 2, by omega, bs * 2, g5, h5, _, _, _, _, _, _, _, _, rfl, rfl, by omega, done g5 s5 o5, s4.trans (s5.mono (by omega) (Nat.le_refl N)), d5, x4.trans k5⟩
          · rw [dec_f hm]
            refine Rs.seqF rfl ?_
            repeat (first | with_reducible refine Rs.seqA ?_ | with_reducible refine Rs.seqRegion ?_ | with_reducible refine Rs.seqSkip ?_ | with_reducible refine Rs.lastRegion ?_ | refine Sq.o rfl rfl (fun _ => rfl) rfl ?_ | refine Sq.off rfl rfl ?_ | refine Sq.nil ?_)
            rw [Nat.min_eq_right (by omega)] at sl
            refine Sq.a rfl rfl (op_mul (b := 2) rfl rfl (by omega)) rfl ?_
            repeat (first | with_reducible refine Rs.seqA ?_ | with_reducible refine Rs.seqRegion ?_ | with_reducible refine Rs.seqSkip ?_ | with_reducible refine Rs.lastRegion ?_ | refine Sq.o rfl rfl (fun _ => rfl) rfl ?_ | refine Sq.off rfl rfl ?_ | refine Sq.nil ?_)
            exact ⟨N - bs * 2, by omega, bs * 2, g4, h4, _, _, _, _, _, _, _, _, rfl, rfl, by omega, done g4 (.refl _) sl, s4, d4, x4⟩
      · rw [dec_f hc]
        refine Rs.seqF rfl ?_
        refine Rs.seqExit ?_
        have o := ha 0
        rw [Nat.zero_mul, Nat.min_eq_right (by omega)] at o
        exact ⟨rfl, g3, h3, _, _, _, _, _, _, _, _, _, _, _, rfl, o, s3, d3, x3⟩
    · rintro st ⟨g3, h3, x1, x2, x6, x7, x8, x9, x13, x30, x35, x54, ts, rfl, o3, s3, d3, x3⟩
      exact ⟨.inl rfl, _, _, _, rfl, rfl, rfl, g3, d3, s3, o3, x3⟩
theorem run100 {h : AH} {bk N : Nat} {f : Nat → Pr} (w : h.WF) (d : DV h bk N f) (hN : N < 1000000) :
    Cl EA 100 [dv bk N, .func (.func 43) #[] #[]] h (fun _ h' => ∃ g, DV h' bk N g ∧ SW 0 N f g ∧ Srt 0 N g ∧ KX bk h h') := by
  refine Cl.fn Go.Proofs.Tryz.f100 9 3 [] rfl rfl (by kernel_rfl) rfl rfl (by kernel_rfl) rfl rfl ?_
  repeat (first | with_reducible refine Rs.seqA ?_ | with_reducible refine Rs.seqRegion ?_ | with_reducible refine Rs.seqSkip ?_ | with_reducible refine Rs.lastRegion ?_ | refine Sq.o rfl rfl (fun _ => rfl) rfl ?_ | refine Sq.off rfl rfl ?_ | refine Sq.nil ?_)
  refine Sq.call rfl rfl rfl rfl (Cv.f ((run176 w d hN).mono fun v h2 hv => ?_))
  obtain ⟨g, d2, s2, o2, k2⟩ := hv
  refine ⟨_, rfl, ?_⟩
  repeat (first | with_reducible refine Rs.seqA ?_ | with_reducible refine Rs.seqRegion ?_ | with_reducible refine Rs.seqSkip ?_ | with_reducible refine Rs.lastRegion ?_ | refine Sq.o rfl rfl (fun _ => rfl) rfl ?_ | refine Sq.off rfl rfl ?_ | refine Sq.nil ?_)
  exact ⟨.inl rfl, _, _, _, rfl, rfl, rfl, g, d2, s2, o2, k2⟩
end Go.RA
namespace Go.RA
set_option maxRecDepth 100000

theorem encR_cell (row : List Tm) : (encR row).all Value.isCell = true := by
  induction row with
  | nil => rfl
  | cons t r ih => rw [encR_cons]; simp [ih, Value.isCell]
/-- 'append(S{}, s...)' with the terms of a row. -/
theorem clone_append {h : AH} {b : Nat} {v : Value} {row : List Tm} (w : h.WF) (hb : h.get b = some (.cells [] 63 3)) (kr : RowV h v row) (hnn : ∀ c, v ≠ .slice none row.length c) (hl : row.length < 1000000) :
    ∃ u h', aAppend EA [87, 87] [.slice (some ⟨b, 0, none⟩) 0 0, v] h = some (u, h') ∧ RowV h' u row ∧ GR h h' := by
  have h2 : EA.und 87 = some (.slice 63) := by kernel_rfl
  have h3 : szOf EA 63 = some 3 := by kernel_rfl
  have h4 : byOf EA 63 = some 40 := by kernel_rfl
  have h5 : zeroOf EA 63 = some (.agg #[.int .i64 0, .string ⟨#[]⟩, .string ⟨#[]⟩]) := by kernel_rfl
  have hro : Nat.beq 63 RO = false := by kernel_rfl
  obtain ⟨a, c, rfl, k⟩ := kr
  have hemp : row = [] → ∃ u h', aAppend EA [87, 87] [.slice (some ⟨b, 0, none⟩) 0 0, .slice a row.length c] h = some (u, h') ∧ RowV h' u row ∧ GR h h' := fun e => by
    subst e
    have h6 : srcCells 3 (.slice a ([] : List Tm).length c) h = some (0, []) := by
      match a, k with
      | none, _ => exact absurd rfl (hnn c)
      | some ⟨b0, o, none⟩, ⟨cs, el, k1, k2⟩ => simp only [srcCells, k1, List.length_nil, Nat.zero_mul, ltake]; rfl
      | some ⟨_, _, some _⟩, _ => rfl
    refine ⟨.slice (some ⟨b, 0, none⟩) 0 0, h, ?_, ⟨some ⟨b, 0, none⟩, 0, rfl, [], 63, hb, rfl⟩, GR.refl w⟩
    simp only [aAppend, h2, h3, h4, h5, h6, Option.bind_some]
    rw [if_neg (by simp [vcells]), if_pos trivial]
  match a, k with
  | none, _ => exact absurd rfl (hnn c)
  | some ⟨_, _, some _⟩, k => exact hemp k
  | some ⟨b0, o, none⟩, ⟨cs, el, k1, k2⟩ =>
    by_cases e : row = []
    · exact hemp e
    have hpos : 0 < row.length := List.length_pos_iff.2 e
    have hle : row.length * 3 ≤ (cs.drop o).length := by
      have := congrArg List.length k2
      rw [encR_len, List.length_take] at this; omega
    have h6 : srcCells 3 (.slice (some ⟨b0, o, none⟩) row.length c) h = some (row.length, encR row) := by
      simp only [srcCells, k1]
      rw [ldrop_eq, ltake_ok hle, k2]; rfl
    have g := gr_pushed w (.cells ([] ++ encR row) 63 3)
    refine ⟨.slice (some ⟨h.size, 0, none⟩) (0 + row.length) (INEX + 3), _, ?_, ⟨some ⟨h.size, 0, none⟩, INEX + 3, by rw [Nat.zero_add], _, 63, get_pushed _ _, ?_⟩, g⟩
    · simp only [aAppend, h2, h3, h4, h5, h6, hb, Option.bind_some]
      rw [if_neg (by simp [vcells]), if_neg (by omega), if_neg (by omega), if_neg (by simp [hro]), if_neg (by unfold INEX; omega), if_neg (by omega)]
      simp only [ltake, Option.bind_some, pushCells]
      rw [if_pos (by simp [hro]; simpa using encR_cell row)]
      rfl
    · rw [List.nil_append, List.drop_zero, List.take_of_length_le (by rw [encR_len]; exact Nat.le_refl _)]
theorem run99 {row : List Tm} {v : Value} {h : AH} (w : h.WF) (kr : RowV h v row) (hl : row.length < 1000000) : Cl EA 99 [v] h (fun v' h' => RowV h' v' row ∧ GR h h') := by
  obtain ⟨a, c, rfl, k⟩ := kr
  have kr : RowV h (.slice a row.length c) row := ⟨a, c, rfl, k⟩
  cases a with
  | none =>
    refine Cl.fn Go.Proofs.Tryz.f99 8 21 [.tmp 2] rfl rfl (by kernel_rfl) rfl rfl (by kernel_rfl) rfl rfl ?_
    repeat (first | with_reducible refine Rs.seqA ?_ | with_reducible refine Rs.seqRegion ?_ | with_reducible refine Rs.seqSkip ?_ | with_reducible refine Rs.lastRegion ?_ | refine Sq.o rfl rfl (fun _ => rfl) rfl ?_ | refine Sq.off rfl rfl ?_ | refine Sq.nil ?_)
    refine Rs.seqT rfl ?_
    repeat (first | with_reducible refine Rs.seqA ?_ | with_reducible refine Rs.seqRegion ?_ | with_reducible refine Rs.seqSkip ?_ | with_reducible refine Rs.lastRegion ?_ | refine Sq.o rfl rfl (fun _ => rfl) rfl ?_ | refine Sq.off rfl rfl ?_ | refine Sq.nil ?_)
    exact Rs.seqRet ⟨.inr rfl, _, _, _, rfl, rfl, rfl, ⟨none, 0, by rw [k.1]; rfl, k.1, rfl⟩, GR.refl w⟩
  | some q =>
    refine Cl.fn Go.Proofs.Tryz.f99 8 21 [.tmp 2] rfl rfl (by kernel_rfl) rfl rfl (by kernel_rfl) rfl rfl ?_
    repeat (first | with_reducible refine Rs.seqA ?_ | with_reducible refine Rs.seqRegion ?_ | with_reducible refine Rs.seqSkip ?_ | with_reducible refine Rs.lastRegion ?_ | refine Sq.o rfl rfl (fun _ => rfl) rfl ?_ | refine Sq.off rfl rfl ?_ | refine Sq.nil ?_)
    refine Rs.seqF rfl ?_
    repeat (first | with_reducible refine Rs.seqA ?_ | with_reducible refine Rs.seqRegion ?_ | with_reducible refine Rs.seqSkip ?_ | with_reducible refine Rs.lastRegion ?_ | refine Sq.o rfl rfl (fun _ => rfl) rfl ?_ | refine Sq.off rfl rfl ?_ | refine Sq.nil ?_)
    refine Sq.push w rfl rfl (op_buildSlice (cs := []) rfl rfl rfl rfl rfl rfl rfl) rfl fun h1 g1 q1 s1 => ?_
    repeat (first | with_reducible refine Rs.seqA ?_ | with_reducible refine Rs.seqRegion ?_ | with_reducible refine Rs.seqSkip ?_ | with_reducible refine Rs.lastRegion ?_ | refine Sq.o rfl rfl (fun _ => rfl) rfl ?_ | refine Sq.off rfl rfl ?_ | refine Sq.nil ?_)
    obtain ⟨u, h2, e2, k2, g2⟩ := clone_append g1.wf q1 (kr.keep g1.keep) (fun c e => by cases e) hl
    refine Sq.a rfl rfl (v := u) (h' := h2) e2 rfl ?_
    repeat (first | with_reducible refine Rs.seqA ?_ | with_reducible refine Rs.seqRegion ?_ | with_reducible refine Rs.seqSkip ?_ | with_reducible refine Rs.lastRegion ?_ | refine Sq.o rfl rfl (fun _ => rfl) rfl ?_ | refine Sq.off rfl rfl ?_ | refine Sq.nil ?_)
    exact Rs.ret ⟨.inr rfl, _, _, _, rfl, rfl, rfl, k2, g1.trans g2⟩
theorem run228nil {h : AH} (_w : h.WF) : Cl EA 228 [.slice none 0 0, .int .i64 (Int.ofNat 0), .int .i64 (Int.ofNat 0), .func (.func 43) #[] #[]] h (fun _ h' => h' = h) := by
  refine Cl.fn Go.Proofs.Tryz.f228 53 17179886351 [] rfl rfl (by kernel_rfl) rfl rfl (by kernel_rfl) rfl rfl ?_
  repeat (first | with_reducible refine Rs.seqA ?_ | with_reducible refine Rs.seqRegion ?_ | with_reducible refine Rs.seqSkip ?_ | with_reducible refine Rs.lastRegion ?_ | refine Sq.o rfl rfl (fun _ => rfl) rfl ?_ | refine Sq.off rfl rfl ?_ | refine Sq.nil ?_)
  refine Sq.a rfl rfl (op_add (b := 1) rfl rfl (by omega)) rfl ?_
  repeat (first | with_reducible refine Rs.seqA ?_ | with_reducible refine Rs.seqRegion ?_ | with_reducible refine Rs.seqSkip ?_ | with_reducible refine Rs.lastRegion ?_ | refine Sq.o rfl rfl (fun _ => rfl) rfl ?_ | refine Sq.off rfl rfl ?_ | refine Sq.nil ?_)
  refine Rs.block (Rs.loop ?_)
  repeat (first | with_reducible refine Rs.seqA ?_ | with_reducible refine Rs.seqRegion ?_ | with_reducible refine Rs.seqSkip ?_ | with_reducible refine Rs.lastRegion ?_ | refine Sq.o rfl rfl (fun _ => rfl) rfl ?_ | refine Sq.off rfl rfl ?_ | refine Sq.nil ?_)
  refine Rs.seqF rfl ?_
  refine Rs.seqExit ?_
  exact ⟨.inl rfl, _, _, _, rfl, rfl, rfl, rfl⟩
theorem run176nil {h : AH} (w : h.WF) : Cl EA 176 [.slice none 0 0, .int .i64 (Int.ofNat 0), .func (.func 43) #[] #[]] h (fun _ h' => h' = h) := by
  refine Cl.fn Go.Proofs.Tryz.f176 63 18014433942971335 [] rfl rfl (by kernel_rfl) rfl rfl (by kernel_rfl) rfl rfl ?_
  repeat (first | with_reducible refine Rs.seqA ?_ | with_reducible refine Rs.seqRegion ?_ | with_reducible refine Rs.seqSkip ?_ | with_reducible refine Rs.lastRegion ?_ | refine Sq.o rfl rfl (fun _ => rfl) rfl ?_ | refine Sq.off rfl rfl ?_ | refine Sq.nil ?_)
  refine Rs.seqBlock (Rs.loop ?_)
  repeat (first | with_reducible refine Rs.seqA ?_ | with_reducible refine Rs.seqRegion ?_ | with_reducible refine Rs.seqSkip ?_ | with_reducible refine Rs.lastRegion ?_ | refine Sq.o rfl rfl (fun _ => rfl) rfl ?_ | refine Sq.off rfl rfl ?_ | refine Sq.nil ?_)
  refine Rs.seqF rfl ?_
  refine Rs.seqExit ?_
  show Rs EA _ _ _ _
  repeat (first | with_reducible refine Rs.seqA ?_ | with_reducible refine Rs.seqRegion ?_ | with_reducible refine Rs.seqSkip ?_ | with_reducible refine Rs.lastRegion ?_ | refine Sq.o rfl rfl (fun _ => rfl) rfl ?_ | refine Sq.off rfl rfl ?_ | refine Sq.nil ?_)
  refine Sq.call rfl rfl rfl rfl (Cv.f ((run228nil w).mono fun v h2 hv => ?_))
  subst hv
  refine ⟨_, rfl, ?_⟩
  repeat (first | with_reducible refine Rs.seqA ?_ | with_reducible refine Rs.seqRegion ?_ | with_reducible refine Rs.seqSkip ?_ | with_reducible refine Rs.lastRegion ?_ | refine Sq.o rfl rfl (fun _ => rfl) rfl ?_ | refine Sq.off rfl rfl ?_ | refine Sq.nil ?_)
  refine Rs.block (Rs.loop ?_)
  repeat (first | with_reducible refine Rs.seqA ?_ | with_reducible refine Rs.seqRegion ?_ | with_reducible refine Rs.seqSkip ?_ | with_reducible refine Rs.lastRegion ?_ | refine Sq.o rfl rfl (fun _ => rfl) rfl ?_ | refine Sq.off rfl rfl ?_ | refine Sq.nil ?_)
  refine Rs.seqF rfl ?_
  refine Rs.seqExit ?_
  exact ⟨.inl rfl, _, _, _, rfl, rfl, rfl, rfl⟩
theorem run100nil {h : AH} (w : h.WF) : Cl EA 100 [.slice none 0 0, .func (.func 43) #[] #[]] h (fun _ h' => h' = h) := by
  refine Cl.fn Go.Proofs.Tryz.f100 9 3 [] rfl rfl (by kernel_rfl) rfl rfl (by kernel_rfl) rfl rfl ?_
  repeat (first | with_reducible refine Rs.seqA ?_ | with_reducible refine Rs.seqRegion ?_ | with_reducible refine Rs.seqSkip ?_ | with_reducible refine Rs.lastRegion ?_ | refine Sq.o rfl rfl (fun _ => rfl) rfl ?_ | refine Sq.off rfl rfl ?_ | refine Sq.nil ?_)
  refine Sq.call rfl rfl rfl rfl (Cv.f ((run176nil w).mono fun v h2 hv => ?_))
  subst hv
  refine ⟨_, rfl, ?_⟩
  repeat (first | with_reducible refine Rs.seqA ?_ | with_reducible refine Rs.seqRegion ?_ | with_reducible refine Rs.seqSkip ?_ | with_reducible refine Rs.lastRegion ?_ | refine Sq.o rfl rfl (fun _ => rfl) rfl ?_ | refine Sq.off rfl rfl ?_ | refine Sq.nil ?_)
  exact ⟨.inl rfl, _, _, _, rfl, rfl, rfl, rfl⟩
end Go.RA
namespace Go.RA
set_option maxRecDepth 100000

theorem swp_list (f : Nat → Pr) {n x y : Nat} (hx : x < n) (hy : y < n) : ((List.range n).map (swp f x y)).Perm ((List.range n).map f) := by
  have hs : ((List.range n).map f).toArray.size = n := by simp
  have hp := Array.swap_perm (xs := ((List.range n).map f).toArray) (i := x) (j := y) (by omega) (by omega)
  have hl := hp.toList
  simp only at hl
  refine List.Perm.trans (List.Perm.of_eq ?_) hl
  apply List.ext_getElem?
  intro k
  simp only [Array.getElem?_toList]
  by_cases hk : k < n
  · rw [Array.getElem?_eq_getElem (by simp; omega)]
    simp only [List.getElem?_map, List.getElem?_range hk, Option.map_some, Array.getElem_swap, List.getElem_toArray, List.getElem_map, List.getElem_range]
    unfold swp
    by_cases c1 : k = x
    · subst c1
      by_cases c2 : k = y
      · subst c2; simp
      · rw [if_neg c2, if_pos rfl, if_pos rfl]
    · by_cases c2 : k = y
      · subst c2; simp [c1]
      · simp [c1, c2]
  · rw [List.getElem?_eq_none (by simp; omega), Array.getElem?_eq_none (by simp; omega)]
theorem SW.perm {a b n : Nat} {f g : Nat → Pr} (h : SW a b f g) (hb : b ≤ n) : ((List.range n).map g).Perm ((List.range n).map f) := by
  induction h with
  | refl => exact List.Perm.refl _
  | step _ h1 h2 h3 h4 ih => exact (swp_list _ (by omega) (by omega)).trans ih
def rowsOf (n : Nat) (f : Nat → Pr) : List (List Tm) := (List.range n).map fun i => (f i).2
def SrtL (l : List (List Tm)) : Prop := l.Pairwise fun x y => cmpR x y ≤ 0
theorem Srt.list {n : Nat} {f : Nat → Pr} (h : Srt 0 n f) : SrtL (rowsOf n f) := by
  unfold SrtL rowsOf
  rw [List.pairwise_iff_getElem]
  intro i j hi hj hij
  simp at hi hj
  have := h i j (Nat.zero_le _) hij (by simpa using hj)
  unfold Le at this
  simpa using this
theorem SW.rows {a b n : Nat} {f g : Nat → Pr} (h : SW a b f g) (hb : b ≤ n) : (rowsOf n g).Perm (rowsOf n f) := by
  have := (h.perm hb).map (·.2)
  simpa [rowsOf, List.map_map, Function.comp_def] using this
theorem OwnV.dv {h : AH} {b : Nat} {rows : List (List Tm)} {vs : List Value} (hg : h.get b = some (.cells vs 87 1)) (hr : LR (RowV h) vs rows) (sr : Short rows) : ∃ f, DV h b rows.length f ∧ rowsOf rows.length f = rows := by
  have hlen := hr.length
  refine ⟨fun i => (vs.getD i (.slice none 0 0), rows.getD i []), ⟨?_, fun i hi => ?_⟩, ?_⟩
  · rw [hg]
    congr 2
    refine cellsOf_ext hlen fun k hk => ?_
    rw [List.getD_eq_getElem?_getD, List.getElem?_eq_getElem (by omega)]; rfl
  · obtain ⟨x, h1, h2⟩ := hr.getR hi
    simp only [List.getD_eq_getElem?_getD, h1, List.getElem?_eq_getElem hi, Option.getD_some]
    exact ⟨h2, sr.at hi⟩
  · apply List.ext_getElem?
    intro k
    by_cases hk : k < rows.length
    · simp [rowsOf, hk, List.getD_eq_getElem?_getD]
    · rw [List.getElem?_eq_none (by simp [rowsOf]; omega), List.getElem?_eq_none (by omega)]
theorem DV.own {h : AH} {b n : Nat} {f : Nat → Pr} (d : DV h b n f) : OwnV h b (dv b n) (rowsOf n f) := by
  refine .inr ⟨by simp [dv, rowsOf], _, d.get, ?_⟩
  refine LR.iff.2 ⟨by simp [cellsOf, rowsOf], fun i x y h1 h2 => ?_⟩
  have hi : i < n := by
    have := (List.getElem?_eq_some_iff.1 h1).1
    simpa [cellsOf] using this
  rw [cellsOf_get _ hi] at h1
  cases h1
  simp [rowsOf, hi] at h2
  subst h2
  exact (d.row i hi).1
theorem rowsOf_short {h : AH} {b n : Nat} {f : Nat → Pr} (d : DV h b n f) : Short (rowsOf n f) := fun r hr => by
  simp [rowsOf] at hr
  obtain ⟨i, hi, rfl⟩ := hr
  exact (d.row i hi).2
theorem run39 {rows : List (List Tm)} {v : Value} {h : AH} (w : h.WF) (kv : RowsV h v rows) (hl : rows.length + 1 < 1000000) (sr : Short rows) :
    Cl EA 39 [v] h (fun v' h' => ∃ b' rows', OwnV h' b' v' rows' ∧ rows'.Perm rows ∧ SrtL rows' ∧ Short rows' ∧ GR h h' ∧ h.size ≤ b') := by
  obtain ⟨a, c, e⟩ := kv.slice
  refine Cl.fn Go.Proofs.Tryz.f39 21 1005 [.tmp 2] rfl rfl (by kernel_rfl) rfl rfl (by kernel_rfl) rfl rfl ?_
  subst e
  repeat (first | with_reducible refine Rs.seqA ?_ | with_reducible refine Rs.seqRegion ?_ | with_reducible refine Rs.seqSkip ?_ | with_reducible refine Rs.lastRegion ?_ | refine Sq.o rfl rfl (fun _ => rfl) rfl ?_ | refine Sq.off rfl rfl ?_ | refine Sq.nil ?_)
  refine Rs.seqLoop (fun k st => ∃ i v1 b1 h1 x5 x9 ts, st = ⟨⟨(.cons 0 (.slice a rows.length c) (.cons 2 (.slice none 0 0) (.cons 3 (v1) (.cons 5 (x5) (.cons 6 (.slice a rows.length c) (.cons 7 (.int .i64 (Int.ofNat rows.length)) (.cons 8 (.int .i64 (Int.ofNat i)) (.cons 9 (x9) .nil)))))))), ts⟩, [], h1⟩ ∧ (i + k = rows.length) ∧ (OwnV h1 b1 v1 (rows.take i)) ∧ (h.size ≤ b1) ∧ (GR h h1)) (fun st => ∃ v1 b1 h1 x5 x6 x7 x8 x9 ts, st = ⟨⟨(.cons 0 (.slice a rows.length c) (.cons 2 (.slice none 0 0) (.cons 3 (v1) (.cons 5 (x5) (.cons 6 (x6) (.cons 7 (x7) (.cons 8 (x8) (.cons 9 (x9) .nil)))))))), ts⟩, [], h1⟩ ∧ (OwnV h1 b1 v1 rows) ∧ (h.size ≤ b1) ∧ (GR h h1)) ?_ ?_ (rows.length) _ ⟨0, .slice none 0 0, h.size, h, _, _, _, rfl, by simp, .inl ⟨rfl, rfl⟩, Nat.le_refl _, GR.refl w⟩
  · rintro k st ⟨i, v1, b1, h1, x5, x9, ts, rfl, hk, ho, hb, g1⟩
    have kv1 := kv.keep g1.keep
    repeat (first | with_reducible refine Rs.seqA ?_ | with_reducible refine Rs.seqRegion ?_ | with_reducible refine Rs.seqSkip ?_ | with_reducible refine Rs.lastRegion ?_ | refine Sq.o rfl rfl (fun _ => rfl) rfl ?_ | refine Sq.off rfl rfl ?_ | refine Sq.nil ?_)
    (first | rw [ilt_nat] | rw [ilt_oc] | rw [ilt_co] | rw [ilt_cc])
    by_cases hi : i < rows.length
    · rw [dec_t hi]
      refine Rs.seqT rfl ?_
      repeat (first | with_reducible refine Rs.seqA ?_ | with_reducible refine Rs.seqRegion ?_ | with_reducible refine Rs.seqSkip ?_ | with_reducible refine Rs.lastRegion ?_ | refine Sq.o rfl rfl (fun _ => rfl) rfl ?_ | refine Sq.off rfl rfl ?_ | refine Sq.nil ?_)
      refine Rs.seqBlock ?_
      obtain ⟨b0, o0, c0, cs, el, xa, e1, e2, e3, e4⟩ := kv1.at hi
      cases e1
      repeat (first | with_reducible refine Rs.seqA ?_ | with_reducible refine Rs.seqRegion ?_ | with_reducible refine Rs.seqSkip ?_ | with_reducible refine Rs.lastRegion ?_ | refine Sq.o rfl rfl (fun _ => rfl) rfl ?_ | refine Sq.off rfl rfl ?_ | refine Sq.nil ?_)
      refine Sq.a rfl rfl (op_indexAddr rfl rfl hi rfl rfl) rfl ?_
      refine Sq.a rfl rfl (op_load rfl e2 e3) rfl ?_
      repeat (first | with_reducible refine Rs.seqA ?_ | with_reducible refine Rs.seqRegion ?_ | with_reducible refine Rs.seqSkip ?_ | with_reducible refine Rs.lastRegion ?_ | refine Sq.o rfl rfl (fun _ => rfl) rfl ?_ | refine Sq.off rfl rfl ?_ | refine Sq.nil ?_)
      refine Sq.call rfl rfl rfl rfl (Cv.f ((run99 g1.wf e4 (sr.at hi)).mono fun u h2 hv => ?_))
      obtain ⟨ku, g2⟩ := hv
      refine ⟨_, rfl, ?_⟩
      obtain ⟨au, cu, eu⟩ := ku.slice
      refine Sq.push g2.wf rfl rfl (op_buildSlice (cs := [u]) rfl rfl rfl rfl rfl (by rw [eu]; rfl) (by rw [eu]; kernel_rfl)) rfl fun h3 g3 q3 s3 => ?_
      have ho3 := (ho.keep g2.keep).keep g3.keep
      have hlen : (rows.take i).length = i := by rw [List.length_take]; omega
      obtain ⟨h4, ha, k4, hlt, ⟨vs, hg4, hr4⟩, _⟩ := own_append g3.wf ho3 q3 (ku.keep g3.keep) (by omega) 1
      refine Sq.a rfl rfl (v := .slice (some ⟨h3.size, 0, none⟩) ((rows.take i).length + 1) (INEX + 1)) (h' := h4) ha rfl ?_
      repeat (first | with_reducible refine Rs.seqA ?_ | with_reducible refine Rs.seqRegion ?_ | with_reducible refine Rs.seqSkip ?_ | with_reducible refine Rs.lastRegion ?_ | refine Sq.o rfl rfl (fun _ => rfl) rfl ?_ | refine Sq.off rfl rfl ?_ | refine Sq.nil ?_)
      refine Rs.lastRegion ?_
      refine Sq.a rfl rfl (op_add (b := 1) rfl rfl (by omega)) rfl ?_
      repeat (first | with_reducible refine Rs.seqA ?_ | with_reducible refine Rs.seqRegion ?_ | with_reducible refine Rs.seqSkip ?_ | with_reducible refine Rs.lastRegion ?_ | refine Sq.o rfl rfl (fun _ => rfl) rfl ?_ | refine Sq.off rfl rfl ?_ | refine Sq.nil ?_)
      have gg := (g1.trans g2).trans g3
      exact ⟨rows.length - (i + 1), by omega, i + 1, _, h3.size, h4, _, _, _, rfl, by omega, by rw [List.take_succ_eq_append_getElem hi]; exact .inr ⟨by congr 1; simp; omega, _, hg4, hr4⟩, gg.size, k4.gr gg w hb⟩
    · rw [dec_f hi]
      refine Rs.seqF rfl ?_
      refine Rs.seqExit ?_
      rw [List.take_of_length_le (by omega)] at ho
      exact ⟨rfl, v1, b1, h1, _, _, _, _, _, _, rfl, ho, hb, g1⟩
  · rintro st ⟨v1, b1, h1, x5, x6, x7, x8, x9, ts, rfl, ho, hb, g1⟩
    repeat (first | with_reducible refine Rs.seqA ?_ | with_reducible refine Rs.seqRegion ?_ | with_reducible refine Rs.seqSkip ?_ | with_reducible refine Rs.lastRegion ?_ | refine Sq.o rfl rfl (fun _ => rfl) rfl ?_ | refine Sq.off rfl rfl ?_ | refine Sq.nil ?_)
    rcases ho with ⟨rfl, rfl⟩ | ⟨rfl, vs, hg, hr⟩
    · refine Sq.call rfl rfl rfl rfl (Cv.f ((run100nil g1.wf).mono fun v h2 hv => ?_))
      subst hv
      refine ⟨_, rfl, ?_⟩
      repeat (first | with_reducible refine Rs.seqA ?_ | with_reducible refine Rs.seqRegion ?_ | with_reducible refine Rs.seqSkip ?_ | with_reducible refine Rs.lastRegion ?_ | refine Sq.o rfl rfl (fun _ => rfl) rfl ?_ | refine Sq.off rfl rfl ?_ | refine Sq.nil ?_)
      exact Rs.ret ⟨.inr rfl, _, _, _, rfl, rfl, rfl, b1, [], .inl ⟨rfl, rfl⟩, List.Perm.refl _, List.Pairwise.nil, sr, g1, hb⟩
    · obtain ⟨f, d, hf⟩ := OwnV.dv hg hr sr
      refine Sq.call rfl rfl rfl rfl (Cv.f ((run100 g1.wf d (by omega)).mono fun v h2 hv => ?_))
      obtain ⟨g, d2, s2, o2, k2⟩ := hv
      refine ⟨_, rfl, ?_⟩
      repeat (first | with_reducible refine Rs.seqA ?_ | with_reducible refine Rs.seqRegion ?_ | with_reducible refine Rs.seqSkip ?_ | with_reducible refine Rs.lastRegion ?_ | refine Sq.o rfl rfl (fun _ => rfl) rfl ?_ | refine Sq.off rfl rfl ?_ | refine Sq.nil ?_)
      exact Rs.ret ⟨.inr rfl, _, _, _, rfl, rfl, rfl, b1, rowsOf rows.length g, d2.own, by rw [← hf]; simpa [hf] using s2.rows (Nat.le_refl _), o2.list, rowsOf_short d2, k2.gr g1 w hb, hb⟩
end Go.RA
namespace Go.RA
set_option maxRecDepth 100000

def StrL (l : List (List Tm)) : Prop := l.Pairwise fun x y => cmpR x y < 0
theorem SrtL.srt {n : Nat} {f : Nat → Pr} (h : SrtL (rowsOf n f)) : Srt 0 n f := fun i j _ h2 h3 => by
  unfold SrtL rowsOf at h
  rw [List.pairwise_iff_getElem] at h
  have := h i j (by simp; omega) (by simp; omega) h2
  unfold Le
  simpa using this
theorem DV.loadAt {h : AH} {b n : Nat} {f : Nat → Pr} (d : DV h b n f) {k off : Nat} (hk : k < n) (he : off = k) {cx : Cx} {tm : Fr} {x : Operand} (hx : opnd cx tm x = some (ptrTo b off)) : aOp EA cx (.load 87 x) tm h = some ((f k).1, h) := by
  subst he
  refine op_load hx d.get ?_
  have := d.part hk
  rwa [Nat.zero_add, Nat.mul_one] at this
theorem sliceHi {b len k : Nat} (hk : k ≤ len) : aSlice EA 69 (.slice (some ⟨b, 0, none⟩) len (INEX + 1)) none (some (.int .i64 (Int.ofNat k))) none = some (.slice (some ⟨b, 0, none⟩) k (INEX + 1)) := by
  have h2 : EA.und 69 = some (.slice 87) := by kernel_rfl
  have h3 : szOf EA 87 = some 1 := by kernel_rfl
  simp only [aSlice, h2, h3, Option.bind_some, aBound, Nat.one_ne_zero, if_false]
  rw [if_pos (by unfold INEX; omega)]
  have h1 : Nat.ble k len = true := Nat.ble_eq_true_of_le hk
  simp only [h1, cond_true, Option.bind_some]
  rw [if_pos (by unfold INEX; omega), if_pos trivial]
theorem op_sliceHi {cx : Cx} {tm : Fr} {h : AH} {t : TypeId} {x y : Operand} {v i u : Value} (hx : opnd cx tm x = some v) (hy : opnd cx tm y = some i) (hs : aSlice EA t v none (some i) none = some u) :
    aOp EA cx (.slice t x none (some y) none) tm h = some (u, h) := by
  simp only [aOp, hx, hy, Option.bind_some, Option.map_some, hs]
theorem clear_own {h : AH} {b n k : Nat} {f : Nat → Pr} (w : h.WF) (d : DV h b n f) (hk : k < n) :
    ∃ h' cs, aClear EA [69] [.slice (some ⟨b, 0 + k, none⟩) (n - k) (INEX + 1)] h = some (.tuple #[], h') ∧ PutR b (.cells cs 87 1) h h' ∧ cs.take k = (cellsOf n fun i => (f i).1).take k := by
  have h2 : EA.und 69 = some (.slice 87) := by kernel_rfl
  have h5 : zeroOf EA 87 = some (.slice none 0 0) := by kernel_rfl
  have hro : Nat.beq 87 RO = false := by kernel_rfl
  have hlen : (reps (vcells (.slice none 0 0)) (n - k)).length = n - k := by rw [reps_len]; simp [vcells]
  obtain ⟨cs, hs, het⟩ : ∃ cs, lsets (cellsOf n fun i => (f i).1) (0 + k) (reps (vcells (.slice none 0 0)) (n - k)) = some cs ∧ cs.take k = (cellsOf n fun i => (f i).1).take k :=
    ⟨_, lsets_eq (cellsOf n fun i => (f i).1) (0 + k) (reps (vcells (.slice none 0 0)) (n - k)) (by rw [hlen, cellsOf_len]; omega), by
      rw [Nat.zero_add, List.append_assoc, List.take_left' (by rw [List.length_take, cellsOf_len]; omega)]⟩
  refine ⟨h.put b (.cells cs 87 1), cs, ?_, putR w (w.lt d.get) _, het⟩
  simp only [aClear, h2]
  rw [if_neg (by omega)]
  simp only [h5, Option.bind_some, d.get, hro]
  rw [if_neg (by simp [vcells, Value.isCell]), hs]
  rfl
theorem DV.upd {h h' : AH} {b n k : Nat} {f : Nat → Pr} {p : Pr} (d : DV h b n f) (_hk : k < n) (hp : RowV h p.1 p.2 ∧ p.2.length < 1000000) (q : PutR b (.cells (cellsOf n fun i => if i = k then p.1 else (f i).1) 87 1) h h') : DV h' b n (upd f k p) := by
  refine ⟨?_, fun i hi => ?_⟩
  · rw [q.is]
    congr 3
    funext i
    unfold RA.upd
    split <;> rfl
  · unfold RA.upd
    split
    · exact ⟨hp.1.keepX d.get q.kx, hp.2⟩
    · exact ⟨(d.row i hi).1.keepX d.get q.kx, (d.row i hi).2⟩
theorem lt_of {x y : Pr} (h : Le x y) (hn : cmpR y.2 x.2 ≠ 0) : cmpR x.2 y.2 < 0 := by
  unfold Le at h
  have := ord_row.anti y.2 x.2
  omega
theorem Le.lt {x y z : Pr} (h : Le x y) (k : cmpR y.2 z.2 < 0) : cmpR x.2 z.2 < 0 := by
  unfold Le at h
  by_cases e : cmpR x.2 y.2 = 0
  · rw [ord_row.eq0 _ _ e]; exact k
  · exact ord_row.trans _ _ _ (by omega) k
/-- What CompactFunc hands back. -/
def CompQ (h : AH) (b : Nat) (rows : List (List Tm)) (v' : Value) (h' : AH) : Prop := ∃ rows', RowsV h' v' rows' ∧ StrL rows' ∧ (∀ r, r ∈ rows' ↔ r ∈ rows) ∧ Short rows' ∧ rows'.length ≤ rows.length ∧ KX b h h'
set_option maxHeartbeats 1000000 in
theorem run102 {h : AH} {bk N : Nat} {f : Nat → Pr} (w : h.WF) (d : DV h bk N f) (hN : N < 1000000) (so : Srt 0 N f) :
    Cl EA 102 [dv bk N, .func (.func 98) #[] #[]] h (CompQ h bk (rowsOf N f)) := by
  have same : ∀ h1, DV h1 bk N f → KX bk h h1 → (∀ j, 0 < j → j < N → cmpR (f j).2 (f (j - 1)).2 ≠ 0) → CompQ h bk (rowsOf N f) (dv bk N) h1 := fun h1 d1 x1 hs => by
    refine ⟨rowsOf N f, d1.own.rows, ?_, fun r => Iff.rfl, rowsOf_short d1, Nat.le_refl _, x1⟩
    unfold StrL
    rw [List.pairwise_iff_getElem]
    intro i j hi hj hij
    simp [rowsOf] at hi hj ⊢
    have hl := lt_of (so (j - 1) j (Nat.zero_le _) (by omega) hj) (hs j (by omega) hj)
    by_cases e : i = j - 1
    · subst e; exact hl
    · exact (so i (j - 1) (Nat.zero_le _) (by omega) (by omega)).lt hl
  refine Cl.fn Go.Proofs.Tryz.f102 66 562984581629171 [.tmp 4] rfl rfl (by kernel_rfl) rfl rfl (by kernel_rfl) rfl rfl ?_
  repeat (first | with_reducible refine Rs.seqA ?_ | with_reducible refine Rs.seqRegion ?_ | with_reducible refine Rs.seqSkip ?_ | with_reducible refine Rs.lastRegion ?_ | refine Sq.o rfl rfl (fun _ => rfl) rfl ?_ | refine Sq.off rfl rfl ?_ | refine Sq.nil ?_)
  by_cases h2 : N < 2
  · have hc : ilt (N : Int) 2 = true := by rw [ilt_dec, dec_t (by omega)]
    refine Rs.seqCond rfl (fun _ => ?_) (fun e => absurd (e.symm.trans hc) (by simp))
    repeat (first | with_reducible refine Rs.seqA ?_ | with_reducible refine Rs.seqRegion ?_ | with_reducible refine Rs.seqSkip ?_ | with_reducible refine Rs.lastRegion ?_ | refine Sq.o rfl rfl (fun _ => rfl) rfl ?_ | refine Sq.off rfl rfl ?_ | refine Sq.nil ?_)
    exact Rs.seqRet ⟨.inr rfl, _, _, _, rfl, rfl, rfl, same h d (KX.refl w) fun j h3 h4 => by omega⟩
  have hc : ilt (N : Int) 2 = false := by rw [ilt_dec, dec_f (by omega)]
  refine Rs.seqCond rfl (fun e => absurd (e.symm.trans hc) (by simp)) (fun _ => ?_)
  repeat (first | with_reducible refine Rs.seqA ?_ | with_reducible refine Rs.seqRegion ?_ | with_reducible refine Rs.seqSkip ?_ | with_reducible refine Rs.lastRegion ?_ | refine Sq.o rfl rfl (fun _ => rfl) rfl ?_ | refine Sq.off rfl rfl ?_ | refine Sq.nil ?_)
  refine Rs.seqLoop (fun k st => ∃ k1 h1 x6 x7 x10 x15 x28 x35 x49 ts, st = ⟨⟨(.cons 0 (dv bk N) (.cons 1 (.func (.func 98) #[] #[]) (.cons 4 (.slice none 0 0) (.cons 5 (.int .i64 (Int.ofNat k1)) (.cons 6 (x6) (.cons 7 (x7) (.cons 10 (x10) (.cons 15 (x15) (.cons 28 (x28) (.cons 35 (x35) (.cons 49 (x49) .nil))))))))))), ts⟩, [], h1⟩ ∧ (k1 + k = N) ∧ (1 ≤ k1) ∧ (∀ j, 0 < j → j < k1 → cmpR (f j).2 (f (j - 1)).2 ≠ 0) ∧ (DV h1 bk N f) ∧ (KX bk h h1)) (fun st => ∃ h1 x1 x4 x5 x6 x7 x10 x15 x28 x35 x49 ts, st = ⟨⟨(.cons 0 (dv bk N) (.cons 1 (x1) (.cons 4 (x4) (.cons 5 (x5) (.cons 6 (x6) (.cons 7 (x7) (.cons 10 (x10) (.cons 15 (x15) (.cons 28 (x28) (.cons 35 (x35) (.cons 49 (x49) .nil))))))))))), ts⟩, [], h1⟩ ∧ (∀ j, 0 < j → j < N → cmpR (f j).2 (f (j - 1)).2 ≠ 0) ∧ (DV h1 bk N f) ∧ (KX bk h h1)) ?_ ?_ (N - 1) _ ⟨1, _, _, _, _, _, _, _, _, _, rfl, by omega, Nat.le_refl _, (fun j h3 h4 => by omega), d, KX.refl w⟩
  · rintro k st ⟨k1, h1, x6, x7, x10, x15, x28, x35, x49, ts, rfl, hk, hk1, hs, d1, x1⟩
    repeat (first | with_reducible refine Rs.seqA ?_ | with_reducible refine Rs.seqRegion ?_ | with_reducible refine Rs.seqSkip ?_ | with_reducible refine Rs.lastRegion ?_ | refine Sq.o rfl rfl (fun _ => rfl) rfl ?_ | refine Sq.off rfl rfl ?_ | refine Sq.nil ?_)
    (first | rw [ilt_nat] | rw [ilt_oc] | rw [ilt_co] | rw [ilt_cc])
    by_cases hi : k1 < N
    · rw [dec_t hi]
      refine Rs.seqT rfl ?_
      repeat (first | with_reducible refine Rs.seqA ?_ | with_reducible refine Rs.seqRegion ?_ | with_reducible refine Rs.seqSkip ?_ | with_reducible refine Rs.lastRegion ?_ | refine Sq.o rfl rfl (fun _ => rfl) rfl ?_ | refine Sq.off rfl rfl ?_ | refine Sq.nil ?_)
      refine Rs.seqBlock ?_
      have r1 := d1.row k1 hi
      have r2 := d1.row (k1 - 1) (by omega)
      refine Rs.seqDraw (ord := [0, 1, 2, 3, 4, 5, 6, 7, 8, 9, 10]) true x1.wf (by kernel_rfl) (by kernel_rfl) ?_
      repeat (first | refine Dr.c rfl rfl rfl rfl rfl rfl ?_ | refine Dr.off rfl rfl rfl ?_)
      refine Dr.o rfl rfl rfl (op_indexAddr rfl rfl hi rfl rfl) rfl ?_
      refine Dr.r rfl rfl rfl (d1.load hi rfl) rfl (veq_row r1.1) ?_
      repeat (first | refine Dr.c rfl rfl rfl rfl rfl rfl ?_ | refine Dr.off rfl rfl rfl ?_)
      refine Dr.o rfl rfl rfl (op_sub (b := 1) rfl rfl (by omega) (by omega)) rfl ?_
      refine Dr.o rfl rfl rfl (op_indexAddr rfl rfl (show k1 - 1 < N by omega) rfl rfl) rfl ?_
      refine Dr.r rfl rfl rfl (d1.load (show k1 - 1 < N by omega) rfl) rfl (veq_row r2.1) ?_
      refine Dr.call rfl rfl rfl rfl rfl (Cv.f ((run98 x1.wf r1.1 r2.1 r1.2 r2.2).mono fun v h3 hv => ?_))
      obtain ⟨rfl, g3⟩ := hv
      refine ⟨g3.size, g3.wf, fun _ => g3.keep, _, rfl, ?_⟩
      refine Dr.nil ?_
      have d3 := d1.keepX g3.keep
      have x3 := x1.trans (g3.kx bk)
      by_cases hq : cmpR (f k1).2 (f (k1 - 1)).2 = 0
      · rw [dec_t hq]
        refine Rs.cond (t := true) rfl (fun _ => ?_) (fun e => by cases e)
        repeat (first | with_reducible refine Rs.seqA ?_ | with_reducible refine Rs.seqRegion ?_ | with_reducible refine Rs.seqSkip ?_ | with_reducible refine Rs.lastRegion ?_ | refine Sq.o rfl rfl (fun _ => rfl) rfl ?_ | refine Sq.off rfl rfl ?_ | refine Sq.nil ?_)
        refine Sq.a rfl rfl (op_slice rfl rfl (sliceLo hi)) rfl ?_
        repeat (first | with_reducible refine Rs.seqA ?_ | with_reducible refine Rs.seqRegion ?_ | with_reducible refine Rs.seqSkip ?_ | with_reducible refine Rs.lastRegion ?_ | refine Sq.o rfl rfl (fun _ => rfl) rfl ?_ | refine Sq.off rfl rfl ?_ | refine Sq.nil ?_)
        have hst : ∀ i j, i < j → j < k1 → cmpR (f i).2 (f j).2 < 0 := fun i j h4 h5 => by
          have hl := lt_of (so (j - 1) j (Nat.zero_le _) (by omega) (by omega)) (hs j (by omega) h5)
          by_cases e : i = j - 1
          · subst e; exact hl
          · exact (so i (j - 1) (Nat.zero_le _) (by omega) (by omega)).lt hl
        refine Rs.seqLoop (fun k st => ∃ k3 k2 f2 h4 x10 x15 x28 x35 x49 ts, st = ⟨⟨(.cons 0 (dv bk N) (.cons 1 (.func (.func 98) #[] #[]) (.cons 4 (.slice none 0 0) (.cons 5 (.int .i64 (Int.ofNat k3)) (.cons 6 (.slice (some ⟨bk, 0 + k1, none⟩) (N - k1) (INEX + 1)) (.cons 7 (.int .i64 (Int.ofNat k2)) (.cons 10 (x10) (.cons 15 (x15) (.cons 28 (x28) (.cons 35 (x35) (.cons 49 (x49) .nil))))))))))), ts⟩, [], h4⟩ ∧ (k1 + k2 + k = N) ∧ (k1 ≤ k3 ∧ k3 ≤ k1 + k2 - 1 ∧ 1 ≤ k2) ∧ (∀ i, i < k3 → ∃ j, j < k1 + k2 ∧ (f2 i).2 = (f j).2) ∧ (∀ i j, i < j → j < k3 → cmpR (f2 i).2 (f2 j).2 < 0) ∧ (∀ j, j < k1 + k2 → ∃ i, i < k3 ∧ (f2 i).2 = (f j).2) ∧ (∀ i, k1 + k2 - 1 ≤ i → f2 i = f i) ∧ (DV h4 bk N f2) ∧ (KX bk h h4)) (fun st => ∃ k3 f2 h4 x1 x6 x7 x10 x15 x28 x35 x49 ts, st = ⟨⟨(.cons 0 (dv bk N) (.cons 1 (x1) (.cons 4 (.slice none 0 0) (.cons 5 (.int .i64 (Int.ofNat k3)) (.cons 6 (x6) (.cons 7 (x7) (.cons 10 (x10) (.cons 15 (x15) (.cons 28 (x28) (.cons 35 (x35) (.cons 49 (x49) .nil))))))))))), ts⟩, [], h4⟩ ∧ (k3 < N) ∧ (∀ i, i < k3 → ∃ j, j < N ∧ (f2 i).2 = (f j).2) ∧ (∀ i j, i < j → j < k3 → cmpR (f2 i).2 (f2 j).2 < 0) ∧ (∀ j, j < N → ∃ i, i < k3 ∧ (f2 i).2 = (f j).2) ∧ (DV h4 bk N f2) ∧ (KX bk h h4)) ?_ ?_ (N - k1 - 1) _ ⟨k1, 1, f, _, _, _, _, _, _, _, rfl, by omega, by omega, (fun i h5 => ⟨i, by omega, rfl⟩), hst, (fun j h5 => by
            by_cases e : j = k1
            · subst e; exact ⟨j - 1, by omega, (ord_row.eq0 _ _ hq).symm⟩
            · exact ⟨j, by omega, rfl⟩), (fun i _ => rfl), d3, x3⟩
        · rintro k st ⟨k3, k2, f2, h4, x10, x15, x28, x35, x49, ts, rfl, hk4, hb, i1, i2, i3, i4, d4, x4⟩
          repeat (first | with_reducible refine Rs.seqA ?_ | with_reducible refine Rs.seqRegion ?_ | with_reducible refine Rs.seqSkip ?_ | with_reducible refine Rs.lastRegion ?_ | refine Sq.o rfl rfl (fun _ => rfl) rfl ?_ | refine Sq.off rfl rfl ?_ | refine Sq.nil ?_)
          (first | rw [ilt_nat] | rw [ilt_oc] | rw [ilt_co] | rw [ilt_cc])
          by_cases hi2 : k2 < N - k1
          · rw [dec_t hi2]
            refine Rs.seqT rfl ?_
            repeat (first | with_reducible refine Rs.seqA ?_ | with_reducible refine Rs.seqRegion ?_ | with_reducible refine Rs.seqSkip ?_ | with_reducible refine Rs.lastRegion ?_ | refine Sq.o rfl rfl (fun _ => rfl) rfl ?_ | refine Sq.off rfl rfl ?_ | refine Sq.nil ?_)
            refine Rs.seqBlock ?_
            have r1 := d4.row (k1 + k2) (by omega)
            have r2 := d4.row (k1 + k2 - 1) (by omega)
            refine Rs.seqDraw (ord := [0, 1, 2, 3, 4, 5, 6, 7, 8, 9, 10, 11]) true x4.wf (by kernel_rfl) (by kernel_rfl) ?_
            repeat (first | refine Dr.c rfl rfl rfl rfl rfl rfl ?_ | refine Dr.off rfl rfl rfl ?_)
            refine Dr.o rfl rfl rfl (op_indexAddr rfl rfl hi2 rfl rfl) rfl ?_
            refine Dr.r rfl rfl rfl (d4.loadAt (k := k1 + k2) (by omega) (by omega) rfl) rfl (veq_row r1.1) ?_
            repeat (first | refine Dr.c rfl rfl rfl rfl rfl rfl ?_ | refine Dr.off rfl rfl rfl ?_)
            refine Dr.o rfl rfl rfl (op_sub (b := 1) rfl rfl (by omega) (by omega)) rfl ?_
            refine Dr.o rfl rfl rfl (op_indexAddr rfl rfl (show k2 - 1 < N - k1 by omega) rfl rfl) rfl ?_
            refine Dr.r rfl rfl rfl (d4.loadAt (k := k1 + k2 - 1) (by omega) (by omega) rfl) rfl (veq_row r2.1) ?_
            refine Dr.call rfl rfl rfl rfl rfl (Cv.f ((run98 x4.wf r1.1 r2.1 r1.2 r2.2).mono fun v h5 hv => ?_))
            obtain ⟨rfl, g5⟩ := hv
            refine ⟨g5.size, g5.wf, fun _ => g5.keep, _, rfl, ?_⟩
            repeat (first | refine Dr.c rfl rfl rfl rfl rfl rfl ?_ | refine Dr.off rfl rfl rfl ?_)
            refine Dr.nil ?_
            have d5 := d4.keepX g5.keep
            have x5 := x4.trans (g5.kx bk)
            rw [i4 (k1 + k2) (by omega), i4 (k1 + k2 - 1) (by omega)]
            by_cases hq2 : cmpR (f (k1 + k2)).2 (f (k1 + k2 - 1)).2 = 0
            · rw [dec_t hq2]
              refine Rs.cond (t := false) rfl (fun e => by cases e) (fun _ => ?_)
              refine Rs.skip ?_
              refine Rs.lastRegion ?_
              repeat (first | with_reducible refine Rs.seqA ?_ | with_reducible refine Rs.seqRegion ?_ | with_reducible refine Rs.seqSkip ?_ | with_reducible refine Rs.lastRegion ?_ | refine Sq.o rfl rfl (fun _ => rfl) rfl ?_ | refine Sq.off rfl rfl ?_ | refine Sq.nil ?_)
              refine Sq.a rfl rfl (op_add (b := 1) rfl rfl (by omega)) rfl ?_
              repeat (first | with_reducible refine Rs.seqA ?_ | with_reducible refine Rs.seqRegion ?_ | with_reducible refine Rs.seqSkip ?_ | with_reducible refine Rs.lastRegion ?_ | refine Sq.o rfl rfl (fun _ => rfl) rfl ?_ | refine Sq.off rfl rfl ?_ | refine Sq.nil ?_)
              exact ⟨k - 1, by omega, k3, k2 + 1, f2, h5, _, _, _, _, _, _, rfl, by omega, by omega, (fun i q1 => by obtain ⟨j, q2, q3⟩ := i1 i q1; exact ⟨j, by omega, q3⟩), i2, (fun j q1 => by
                by_cases e : j = k1 + k2
                · subst e
                  obtain ⟨i, q2, q3⟩ := i3 (k1 + k2 - 1) (by omega)
                  exact ⟨i, q2, by rw [q3]; exact (ord_row.eq0 _ _ hq2).symm⟩
                · exact i3 j (by omega)), (fun i q1 => i4 i (by omega)), d5, x5⟩
            · rw [dec_f hq2]
              refine Rs.cond (t := true) rfl (fun _ => ?_) (fun e => by cases e)
              have r5 := d5.row (k1 + k2) (by omega)
              repeat (first | with_reducible refine Rs.seqA ?_ | with_reducible refine Rs.seqRegion ?_ | with_reducible refine Rs.seqSkip ?_ | with_reducible refine Rs.lastRegion ?_ | refine Sq.o rfl rfl (fun _ => rfl) rfl ?_ | refine Sq.off rfl rfl ?_ | refine Sq.nil ?_)
              refine Sq.a rfl rfl (op_indexAddr rfl rfl hi2 rfl rfl) rfl ?_
              refine Sq.a rfl rfl (d5.loadAt (k := k1 + k2) (by omega) (by omega) rfl) rfl ?_
              refine Sq.a rfl rfl (op_indexAddr rfl rfl (show k3 < N by omega) rfl rfl) rfl ?_
              refine Sq.store x5.wf rfl rfl rfl rfl d5.get (row_store r5.1).1 (by rw [(row_store r5.1).2]; exact cellsOf_set _ _ (show k3 < N by omega)) rfl fun h6 p6 => ?_
              have d6 := d5.upd (p := f2 (k1 + k2)) (show k3 < N by omega) r5 p6
              repeat (first | with_reducible refine Rs.seqA ?_ | with_reducible refine Rs.seqRegion ?_ | with_reducible refine Rs.seqSkip ?_ | with_reducible refine Rs.lastRegion ?_ | refine Sq.o rfl rfl (fun _ => rfl) rfl ?_ | refine Sq.off rfl rfl ?_ | refine Sq.nil ?_)
              refine Sq.a rfl rfl (op_add (b := 1) rfl rfl (by omega)) rfl ?_
              repeat (first | with_reducible refine Rs.seqA ?_ | with_reducible refine Rs.seqRegion ?_ | with_reducible refine Rs.seqSkip ?_ | with_reducible refine Rs.lastRegion ?_ | refine Sq.o rfl rfl (fun _ => rfl) rfl ?_ | refine Sq.off rfl rfl ?_ | refine Sq.nil ?_)
              refine Rs.lastRegion ?_
              repeat (first | with_reducible refine Rs.seqA ?_ | with_reducible refine Rs.seqRegion ?_ | with_reducible refine Rs.seqSkip ?_ | with_reducible refine Rs.lastRegion ?_ | refine Sq.o rfl rfl (fun _ => rfl) rfl ?_ | refine Sq.off rfl rfl ?_ | refine Sq.nil ?_)
              refine Sq.a rfl rfl (op_add (b := 1) rfl rfl (by omega)) rfl ?_
              repeat (first | with_reducible refine Rs.seqA ?_ | with_reducible refine Rs.seqRegion ?_ | with_reducible refine Rs.seqSkip ?_ | with_reducible refine Rs.lastRegion ?_ | refine Sq.o rfl rfl (fun _ => rfl) rfl ?_ | refine Sq.off rfl rfl ?_ | refine Sq.nil ?_)
              have hu : ∀ i, i < k3 → upd f2 k3 (f2 (k1 + k2)) i = f2 i := fun i q => by unfold upd; rw [if_neg (by omega)]
              have hu2 : upd f2 k3 (f2 (k1 + k2)) k3 = f (k1 + k2) := by unfold upd; rw [if_pos rfl, i4 _ (by omega)]
              have hlt := lt_of (so (k1 + k2 - 1) (k1 + k2) (Nat.zero_le _) (by omega) (by omega)) hq2
              have hall : ∀ i, i < k3 → cmpR (f2 i).2 (f (k1 + k2)).2 < 0 := fun i q => by
                obtain ⟨j, q2, q3⟩ := i1 i q
                rw [q3]
                by_cases e : j = k1 + k2 - 1
                · subst e; exact hlt
                · exact (so j (k1 + k2 - 1) (Nat.zero_le _) (by omega) (by omega)).lt hlt
              exact ⟨k - 1, by omega, k3 + 1, k2 + 1, _, h6, _, _, _, _, _, _, rfl, by omega, by omega, (fun i q1 => by
                by_cases e : i = k3
                · subst e; exact ⟨k1 + k2, by omega, by rw [hu2]⟩
                · obtain ⟨j, q2, q3⟩ := i1 i (by omega)
                  exact ⟨j, by omega, by rw [hu i (by omega)]; exact q3⟩), (fun i j q1 q2 => by
                by_cases e : j = k3
                · subst e; rw [hu2, hu i q1]; exact hall i q1
                · rw [hu i (by omega), hu j (by omega)]; exact i2 i j q1 (by omega)), (fun j q1 => by
                by_cases e : j = k1 + k2
                · subst e; exact ⟨k3, by omega, by rw [hu2]⟩
                · obtain ⟨i, q2, q3⟩ := i3 j (by omega)
                  exact ⟨i, by omega, by rw [hu i q2]; exact q3⟩), (fun i q1 => by unfold upd; rw [if_neg (by omega)]; exact i4 i (by omega)), d6, x5.trans p6.kx⟩
          · rw [dec_f hi2]
            refine Rs.seqF rfl ?_
            refine Rs.seqExit ?_
            have e : k1 + k2 = N := by omega
            exact ⟨rfl, k3, f2, h4, _, _, _, _, _, _, _, _, _, rfl, by omega, (fun i q => by obtain ⟨j, q2, q3⟩ := i1 i q; exact ⟨j, by omega, q3⟩), i2, (fun j q => i3 j (by omega)), d4, x4⟩
        · rintro st ⟨k3, f2, h4, x1, x6, x7, x10, x15, x28, x35, x49, ts, rfl, hb, i1, i2, i3, d4, x4⟩
          repeat (first | with_reducible refine Rs.seqA ?_ | with_reducible refine Rs.seqRegion ?_ | with_reducible refine Rs.seqSkip ?_ | with_reducible refine Rs.lastRegion ?_ | refine Sq.o rfl rfl (fun _ => rfl) rfl ?_ | refine Sq.off rfl rfl ?_ | refine Sq.nil ?_)
          refine Sq.a rfl rfl (op_slice rfl rfl (sliceLo hb)) rfl ?_
          obtain ⟨h5, cs, ec, p5, et⟩ := clear_own x4.wf d4 hb
          refine Sq.a rfl rfl (v := .tuple #[]) (h' := h5) ec rfl ?_
          repeat (first | with_reducible refine Rs.seqA ?_ | with_reducible refine Rs.seqRegion ?_ | with_reducible refine Rs.seqSkip ?_ | with_reducible refine Rs.lastRegion ?_ | refine Sq.o rfl rfl (fun _ => rfl) rfl ?_ | refine Sq.off rfl rfl ?_ | refine Sq.nil ?_)
          refine Sq.a rfl rfl (op_sliceHi rfl rfl (sliceHi (Nat.le_of_lt hb))) rfl ?_
          repeat (first | with_reducible refine Rs.seqA ?_ | with_reducible refine Rs.seqRegion ?_ | with_reducible refine Rs.seqSkip ?_ | with_reducible refine Rs.lastRegion ?_ | refine Sq.o rfl rfl (fun _ => rfl) rfl ?_ | refine Sq.off rfl rfl ?_ | refine Sq.nil ?_)
          have hrow : ∀ i, i < k3 → RowV h5 (f2 i).1 (f2 i).2 ∧ (f2 i).2.length < 1000000 := fun i q => ⟨(d4.row i (by omega)).1.keepX d4.get p5.kx, (d4.row i (by omega)).2⟩
          refine Rs.ret ⟨.inr rfl, _, _, _, rfl, rfl, rfl, rowsOf k3 f2, ?_, ?_, fun r => ?_, ?_, by simp [rowsOf]; omega, x4.trans p5.kx⟩
          · refine ⟨some ⟨bk, 0, none⟩, INEX + 1, by simp [rowsOf], cs, 87, p5.is, ?_⟩
            rw [List.drop_zero, show (rowsOf k3 f2).length = k3 by simp [rowsOf], et]
            refine LR.iff.2 ⟨by simp [cellsOf, rowsOf]; omega, fun i x y q1 q2 => ?_⟩
            have hik : i < k3 := by
              have := (List.getElem?_eq_some_iff.1 q2).1
              simpa [rowsOf] using this
            rw [List.getElem?_take_of_lt hik, cellsOf_get _ (by omega)] at q1
            cases q1
            simp [rowsOf, hik] at q2
            subst q2
            exact (hrow i hik).1
          · unfold StrL
            rw [List.pairwise_iff_getElem]
            intro i j hi hj hij
            simp [rowsOf] at hi hj ⊢
            exact i2 i j hij hj
          · simp only [rowsOf, List.mem_map, List.mem_range]
            constructor
            · rintro ⟨i, q1, rfl⟩
              obtain ⟨j, q2, q3⟩ := i1 i q1
              exact ⟨j, q2, q3.symm⟩
            · rintro ⟨j, q1, rfl⟩
              obtain ⟨i, q2, q3⟩ := i3 j q1
              exact ⟨i, q2, q3⟩
          · intro r hr
            simp only [rowsOf, List.mem_map, List.mem_range] at hr
            obtain ⟨i, q1, rfl⟩ := hr
            exact (hrow i q1).2
      · rw [dec_f hq]
        refine Rs.cond (t := false) rfl (fun e => by cases e) (fun _ => ?_)
        refine Rs.skip ?_
        refine Rs.lastRegion ?_
        repeat (first | with_reducible refine Rs.seqA ?_ | with_reducible refine Rs.seqRegion ?_ | with_reducible refine Rs.seqSkip ?_ | with_reducible refine Rs.lastRegion ?_ | refine Sq.o rfl rfl (fun _ => rfl) rfl ?_ | refine Sq.off rfl rfl ?_ | refine Sq.nil ?_)
        refine Sq.a rfl rfl (op_add (b := 1) rfl rfl (by omega)) rfl ?_
        repeat (first | with_reducible refine Rs.seqA ?_ | with_reducible refine Rs.seqRegion ?_ | with_reducible refine Rs.seqSkip ?_ | with_reducible refine Rs.lastRegion ?_ | refine Sq.o rfl rfl (fun _ => rfl) rfl ?_ | refine Sq.off rfl rfl ?_ | refine Sq.nil ?_)
        exact ⟨k - 1, by omega, k1 + 1, h3, _, _, _, _, _, _, _, _, rfl, by omega, by omega, (fun j q1 q2 => by
          by_cases e : j = k1
          · subst e; exact hq
          · exact hs j q1 (by omega)), d3, x3⟩
    · rw [dec_f hi]
      refine Rs.seqF rfl ?_
      refine Rs.seqExit ?_
      have e : k1 = N := by omega
      subst e
      exact ⟨rfl, h1, _, _, _, _, _, _, _, _, _, _, _, rfl, hs, d1, x1⟩
  · rintro st ⟨h1, x1, x4, x5, x6, x7, x10, x15, x28, x35, x49, ts, rfl, hs, d1, x1⟩
    repeat (first | with_reducible refine Rs.seqA ?_ | with_reducible refine Rs.seqRegion ?_ | with_reducible refine Rs.seqSkip ?_ | with_reducible refine Rs.lastRegion ?_ | refine Sq.o rfl rfl (fun _ => rfl) rfl ?_ | refine Sq.off rfl rfl ?_ | refine Sq.nil ?_)
    exact Rs.ret ⟨.inr rfl, _, _, _, rfl, rfl, rfl, same h1 d1 x1 hs⟩
end Go.RA
namespace Go.RA
set_option maxRecDepth 100000

theorem leR_trans {x y z : List Tm} (h : cmpR x y ≤ 0) (k : cmpR y z ≤ 0) : cmpR x z ≤ 0 := Le.trans (x := (.nilFunc, x)) (y := (.nilFunc, y)) (z := (.nilFunc, z)) h k
theorem ins_nil (x : List Tm) (o : Bool) : insR [] x o = [x] := by cases o <;> rfl
theorem ins_cons_lt {r x : List Tm} (rs : List (List Tm)) (o : Bool) (h : cmpR r x < 0) : insR (r :: rs) x o = r :: insR rs x o := by
  have h1 : findAt (r :: rs) x = findAt rs x + 1 := by simp only [findAt, if_pos h]
  have h2 : dupR (r :: rs) x = dupR rs x := by unfold dupR; rw [h1]; rfl
  unfold insR
  rw [h1, h2]
  split <;> rfl
theorem ins_cons_ge {r x : List Tm} (rs : List (List Tm)) (o : Bool) (h : ¬ cmpR r x < 0) : insR (r :: rs) x o = if o = true ∧ cmpR r x = 0 then r :: rs else x :: r :: rs := by
  have h1 : findAt (r :: rs) x = 0 := by simp only [findAt, if_neg h]
  have h2 : dupR (r :: rs) x = decide (cmpR r x = 0) := by unfold dupR; rw [h1]; rfl
  unfold insR
  rw [h1, h2]
  by_cases c : o = true ∧ cmpR r x = 0
  · rw [if_pos c, if_pos (by simp [c.1, c.2])]
  · rw [if_neg c, if_neg (by simpa using c)]; rfl
theorem ins_perm (x : List Tm) : ∀ rows, (insR rows x false).Perm (x :: rows) := by
  intro rows
  induction rows with
  | nil => rw [ins_nil]
  | cons r rs ih =>
    by_cases h : cmpR r x < 0
    · rw [ins_cons_lt rs false h]
      exact (ih.cons r).trans (List.Perm.swap x r rs)
    · rw [ins_cons_ge rs false h, if_neg (by simp)]
theorem ins_srt (x : List Tm) : ∀ rows, SrtL rows → SrtL (insR rows x false) := by
  intro rows
  induction rows with
  | nil => intro _; rw [ins_nil]; exact List.pairwise_singleton _ _
  | cons r rs ih =>
    intro hs
    obtain ⟨h1, h2⟩ := List.pairwise_cons.1 hs
    by_cases h : cmpR r x < 0
    · rw [ins_cons_lt rs false h]
      refine List.pairwise_cons.2 ⟨fun y hy => ?_, ih h2⟩
      rcases insR_mem hy with q | q
      · exact h1 y q
      · subst q; omega
    · rw [ins_cons_ge rs false h, if_neg (by simp)]
      have hx : cmpR x r ≤ 0 := by have := ord_row.anti r x; omega
      refine List.pairwise_cons.2 ⟨fun y hy => ?_, hs⟩
      rcases List.mem_cons.1 hy with q | q
      · subst q; exact hx
      · exact leR_trans hx (h1 y q)
theorem insAll_false (rows : List (List Tm)) : SrtL (insAll false rows) ∧ (insAll false rows).Perm rows := by
  have key : ∀ (rows acc : List (List Tm)), SrtL acc → SrtL (rows.foldl (fun acc r => insR acc r false) acc) ∧ (rows.foldl (fun acc r => insR acc r false) acc).Perm (acc ++ rows) := by
    intro rows
    induction rows with
    | nil => intro acc h; exact ⟨h, by simp⟩
    | cons r rows ih =>
      intro acc h
      obtain ⟨h1, h2⟩ := ih (insR acc r false) (ins_srt r acc h)
      refine ⟨h1, h2.trans ?_⟩
      exact ((ins_perm r acc).append_right rows).trans List.perm_middle.symm
  have := key rows [] List.Pairwise.nil
  unfold insAll
  exact ⟨this.1, by simpa using this.2⟩
theorem ins_mem (x r : List Tm) : ∀ rows, r ∈ insR rows x true ↔ r ∈ rows ∨ r = x := by
  intro rows
  induction rows with
  | nil => rw [ins_nil]; simp
  | cons q rs ih =>
    by_cases h : cmpR q x < 0
    · rw [ins_cons_lt rs true h, List.mem_cons, List.mem_cons, ih, or_assoc]
    · rw [ins_cons_ge rs true h]
      by_cases c : cmpR q x = 0
      · rw [if_pos ⟨rfl, c⟩]
        have := ord_row.eq0 _ _ c
        subst this
        simp only [List.mem_cons]
        exact ⟨.inl, fun e => e.elim id .inl⟩
      · rw [if_neg (by simp [c])]
        simp only [List.mem_cons]
        exact ⟨fun e => e.elim .inr .inl, fun e => e.elim .inr .inl⟩
theorem ins_str (x : List Tm) : ∀ rows, StrL rows → StrL (insR rows x true) := by
  intro rows
  induction rows with
  | nil => intro _; rw [ins_nil]; exact List.pairwise_singleton _ _
  | cons r rs ih =>
    intro hs
    obtain ⟨h1, h2⟩ := List.pairwise_cons.1 hs
    by_cases h : cmpR r x < 0
    · rw [ins_cons_lt rs true h]
      refine List.pairwise_cons.2 ⟨fun y hy => ?_, ih h2⟩
      rcases (ins_mem x y rs).1 hy with q | q
      · exact h1 y q
      · subst q; exact h
    · rw [ins_cons_ge rs true h]
      by_cases c : cmpR r x = 0
      · rw [if_pos ⟨rfl, c⟩]; exact hs
      · rw [if_neg (by simp [c])]
        have hx : cmpR x r < 0 := by have := ord_row.anti r x; omega
        refine List.pairwise_cons.2 ⟨fun y hy => ?_, hs⟩
        rcases List.mem_cons.1 hy with q | q
        · subst q; exact hx
        · exact ord_row.trans _ _ _ hx (h1 y q)
theorem insAll_true (rows : List (List Tm)) : StrL (insAll true rows) ∧ ∀ r, r ∈ insAll true rows ↔ r ∈ rows := by
  have key : ∀ (rows acc : List (List Tm)), StrL acc → StrL (rows.foldl (fun acc r => insR acc r true) acc) ∧ ∀ r, r ∈ rows.foldl (fun acc r => insR acc r true) acc ↔ r ∈ acc ∨ r ∈ rows := by
    intro rows
    induction rows with
    | nil => intro acc h; exact ⟨h, by simp⟩
    | cons q rows ih =>
      intro acc h
      obtain ⟨h1, h2⟩ := ih (insR acc q true) (ins_str q acc h)
      refine ⟨h1, fun r => ?_⟩
      rw [List.foldl_cons, h2, ins_mem, List.mem_cons, or_assoc]
  have := key rows [] List.Pairwise.nil
  unfold insAll
  exact ⟨this.1, by simpa using this.2⟩
/-- Sorted rows are one list. -/
theorem sorted_one {a b rows : List (List Tm)} (ha : SrtL a) (hb : SrtL b) (pa : a.Perm rows) (pb : b.Perm rows) : a = b :=
  List.Perm.eq_of_pairwise (fun x y _ _ h1 h2 => ord_row.eq0 _ _ (by have := ord_row.anti x y; omega)) ha hb (pa.trans pb.symm)
theorem StrL.nodup {l : List (List Tm)} (h : StrL l) : l.Nodup := h.imp fun {x y} hxy e => by
  subst e
  rw [ord_row.refl] at hxy; omega
/-- Rows in order, each once, are one list. -/
theorem distinct_one {a b : List (List Tm)} (ha : StrL a) (hb : StrL b) (h : ∀ r, r ∈ a ↔ r ∈ b) : a = b :=
  List.Perm.eq_of_pairwise (fun x y _ _ h1 h2 => ord_row.eq0 _ _ (by have := ord_row.anti x y; omega)) (ha.imp fun h => Int.le_of_lt h) (hb.imp fun h => Int.le_of_lt h) ((List.perm_ext_iff_of_nodup ha.nodup hb.nodup).2 h)
theorem run102nil {h : AH} (_w : h.WF) : Cl EA 102 [.slice none 0 0, .func (.func 98) #[] #[]] h (fun v h' => v = .slice none 0 0 ∧ h' = h) := by
  refine Cl.fn Go.Proofs.Tryz.f102 66 562984581629171 [.tmp 4] rfl rfl (by kernel_rfl) rfl rfl (by kernel_rfl) rfl rfl ?_
  repeat (first | with_reducible refine Rs.seqA ?_ | with_reducible refine Rs.seqRegion ?_ | with_reducible refine Rs.seqSkip ?_ | with_reducible refine Rs.lastRegion ?_ | refine Sq.o rfl rfl (fun _ => rfl) rfl ?_ | refine Sq.off rfl rfl ?_ | refine Sq.nil ?_)
  refine Rs.seqT rfl ?_
  repeat (first | with_reducible refine Rs.seqA ?_ | with_reducible refine Rs.seqRegion ?_ | with_reducible refine Rs.seqSkip ?_ | with_reducible refine Rs.lastRegion ?_ | refine Sq.o rfl rfl (fun _ => rfl) rfl ?_ | refine Sq.off rfl rfl ?_ | refine Sq.nil ?_)
  exact Rs.seqRet ⟨.inr rfl, _, _, _, rfl, rfl, rfl, rfl, rfl⟩
theorem run41 {rows : List (List Tm)} {v : Value} {h : AH} (w : h.WF) (kv : RowsV h v rows) (hl : rows.length + 1 < 1000000) (sr : Short rows) :
    Cl EA 41 [v] h (fun v' h' => RowsV h' v' (insAll true rows) ∧ GR h h') := by
  obtain ⟨hs, hm⟩ := insAll_true rows
  refine Cl.fn Go.Proofs.Tryz.f41 6 5 [.tmp 2] rfl rfl (by kernel_rfl) rfl rfl (by kernel_rfl) rfl rfl ?_
  repeat (first | with_reducible refine Rs.seqA ?_ | with_reducible refine Rs.seqRegion ?_ | with_reducible refine Rs.seqSkip ?_ | with_reducible refine Rs.lastRegion ?_ | refine Sq.o rfl rfl (fun _ => rfl) rfl ?_ | refine Sq.off rfl rfl ?_ | refine Sq.nil ?_)
  refine Sq.call rfl rfl rfl rfl (Cv.f ((run39 w kv hl sr).mono fun v1 h1 hv => ?_))
  obtain ⟨b1, rows1, ho, hp, hsrt, hsh, g1, hb⟩ := hv
  refine ⟨_, rfl, ?_⟩
  rcases ho with ⟨rfl, rfl⟩ | ⟨rfl, vs, hg, hr⟩
  · refine Sq.call rfl rfl rfl rfl (Cv.f ((run102nil g1.wf).mono fun v2 h2 hv => ?_))
    obtain ⟨rfl, rfl⟩ := hv
    refine ⟨_, rfl, ?_⟩
    repeat (first | with_reducible refine Rs.seqA ?_ | with_reducible refine Rs.seqRegion ?_ | with_reducible refine Rs.seqSkip ?_ | with_reducible refine Rs.lastRegion ?_ | refine Sq.o rfl rfl (fun _ => rfl) rfl ?_ | refine Sq.off rfl rfl ?_ | refine Sq.nil ?_)
    have e : rows = [] := List.Perm.nil_eq hp |>.symm
    subst e
    exact Rs.ret ⟨.inr rfl, _, _, _, rfl, rfl, rfl, ⟨none, 0, rfl, rfl, rfl⟩, g1⟩
  · obtain ⟨f, d, hf⟩ := OwnV.dv hg hr hsh
    have hlen := hp.length_eq
    refine Sq.call rfl rfl rfl rfl (Cv.f ((run102 g1.wf d (by omega) (SrtL.srt (by rw [hf]; exact hsrt))).mono fun v2 h2 hv => ?_))
    obtain ⟨rows2, kr2, hst2, hm2, _, _, k2⟩ := hv
    refine ⟨_, rfl, ?_⟩
    repeat (first | with_reducible refine Rs.seqA ?_ | with_reducible refine Rs.seqRegion ?_ | with_reducible refine Rs.seqSkip ?_ | with_reducible refine Rs.lastRegion ?_ | refine Sq.o rfl rfl (fun _ => rfl) rfl ?_ | refine Sq.off rfl rfl ?_ | refine Sq.nil ?_)
    have e : rows2 = insAll true rows := distinct_one hst2 hs fun r => by rw [hm2, hf, hm, hp.mem_iff]
    rw [e] at kr2
    exact Rs.ret ⟨.inr rfl, _, _, _, rfl, rfl, rfl, kr2, k2.gr g1 w hb⟩
theorem run39b {rows : List (List Tm)} {v : Value} {h : AH} (w : h.WF) (kv : RowsV h v rows) (hl : rows.length + 1 < 1000000) (sr : Short rows) :
    Cl EA 39 [v] h (fun v' h' => RowsV h' v' (insAll false rows) ∧ GR h h') := (run39 w kv hl sr).mono fun v' h' ⟨b', rows', ho, hp, hs, _, g, _⟩ => by
  obtain ⟨h1, h2⟩ := insAll_false rows
  have e := sorted_one hs h1 hp h2
  subst e
  exact ⟨ho.rows, g⟩
end Go.RA
namespace Go.RA
set_option maxRecDepth 100000

theorem part_text {cs : List Value} {off : Nat} {t : Tm} (h : aPart EA 63 cs off = some (tv t)) : aPart EA 9 cs (off + 1) = some (.string t.text) ∧ aPart EA 9 cs (off + 2) = some (.string t.extra) := by
  have h0 : (match ltake 3 (ldrop off cs) with | some xs => some (Value.agg ⟨xs⟩) | none => none) = some (tv t) := h
  cases hx : ltake 3 (ldrop off cs) with
  | none => rw [hx] at h0; cases h0
  | some xs =>
    rw [hx] at h0
    obtain ⟨h1, h2⟩ := ltake_some hx
    have h3 : xs = encT t := by
      have := Option.some.inj h0
      simp only [tv, Value.agg.injEq] at this
      exact congrArg Array.toList this
    rw [h3, ldrop_eq] at h1
    have g : ∀ k, k < 3 → cs[off + k]? = (encT t)[k]? := fun k hk => by
      rw [h1, List.getElem?_take_of_lt hk, List.getElem?_drop]
    refine ⟨?_, ?_⟩
    · show lget cs (off + 1) = _
      rw [lget_eq, g 1 (by omega)]; rfl
    · show lget cs (off + 2) = _
      rw [lget_eq, g 2 (by omega)]; rfl
theorem op_min {cx : Cx} {tm : Fr} {h : AH} {x y : Operand} {ts : Array TypeId} {a b : Nat} (hx : opnd cx tm x = some (.int .i64 (Int.ofNat a))) (hy : opnd cx tm y = some (.int .i64 (Int.ofNat b))) :
    aOp EA cx (.call { callee := .builtin .min, args := #[x, y], argTypes := ts }) tm h = some (.int .i64 (Int.ofNat (min a b)), h) := by
  have e : opnds cx tm [x, y] = some [.int .i64 (Int.ofNat a), .int .i64 (Int.ofNat b)] := by simp only [opnds, hx, hy, Option.map_some]
  have e2 : aMinMax false [.int .i64 (Int.ofNat a), .int .i64 (Int.ofNat b)] = some (.int .i64 (Int.ofNat (min a b))) := by
    simp only [aMinMax, ne_eq, not_true_eq_false, if_false, Bool.false_eq_true]
    congr 2
    have hlt : (Int.ofNat b < Int.ofNat a) ↔ b < a := by show (b : Int) < (a : Int) ↔ b < a; omega
    by_cases c : b < a
    · rw [if_pos (hlt.2 c), Nat.min_eq_right (by omega)]
    · rw [if_neg (fun q => c (hlt.1 q)), Nat.min_eq_left (by omega)]
  simp only [aOp, e, Option.bind_some, e2, Option.map_some]
theorem ilt_lo (a b : Nat) : ilt ((OfNat.ofNat a : Nat) : Int) (Int.ofNat b) = decide (a < b) := ilt_nat a b
set_option maxHeartbeats 1000000 in
theorem run29 {rows : List (List Tm)} {v : Value} {h : AH} (w : h.WF) (kv : RowsV h v rows) :
    Cl EA 29 [v] h (fun v' h' => h' = h ∧ ∃ b, v' = .bool b ∧ (b = false → rows.length ≤ 100 ∧ ∀ r ∈ rows, r.length ≤ 100)) := by
  obtain ⟨a, c, e⟩ := kv.slice
  have c100 : ∀ i : Nat, ilt 100 (Int.ofNat i) = decide (100 < i) := fun i => ilt_nat 100 i
  have c3 : ∀ i : Nat, ilt 30000 (Int.ofNat i) = decide (30000 < i) := fun i => ilt_nat 30000 i
  have c4 : ∀ i : Nat, ilt 100 (i : Int) = decide (100 < i) := fun i => ilt_nat 100 i
  refine Cl.fn Go.Proofs.Tryz.f29 66 4611686018494505021 [.tmp 2] rfl rfl (by kernel_rfl) rfl rfl (by kernel_rfl) rfl rfl ?_
  subst e
  repeat (first | with_reducible refine Rs.seqA ?_ | with_reducible refine Rs.seqRegion ?_ | with_reducible refine Rs.seqSkip ?_ | with_reducible refine Rs.lastRegion ?_ | refine Sq.o rfl rfl (fun _ => rfl) rfl ?_ | refine Sq.off rfl rfl ?_ | refine Sq.nil ?_)
  refine Rs.seqLoop (fun k st => ∃ i n h1 x5 x13 x26 x62 ts, st = ⟨⟨(.cons 0 (.slice a rows.length c) (.cons 2 (.bool false) (.cons 3 (.int .i64 (Int.ofNat n)) (.cons 4 (.int .i64 (Int.ofNat i)) (.cons 5 (x5) (.cons 13 (x13) (.cons 26 (x26) (.cons 62 (x62) .nil)))))))), ts⟩, [], h1⟩ ∧ (i + k = 101) ∧ (h1 = h) ∧ (i ≤ rows.length) ∧ (n ≤ i * 7000000) ∧ (∀ j (hj : j < rows.length), j < i → rows[j].length ≤ 100)) (fun st => ∃ i h1 x3 x4 x5 x13 x26 x62 ts, st = ⟨⟨(.cons 0 (.slice a rows.length c) (.cons 2 (.bool false) (.cons 3 (x3) (.cons 4 (x4) (.cons 5 (x5) (.cons 13 (x13) (.cons 26 (x26) (.cons 62 (x62) .nil)))))))), ts⟩, [], h1⟩ ∧ (h1 = h) ∧ (i ≤ rows.length) ∧ (i = rows.length ∨ 100 < i) ∧ (∀ j (hj : j < rows.length), j < i → rows[j].length ≤ 100)) ?_ ?_ (101) _ ⟨0, 0, _, _, _, _, _, _, rfl, by omega, rfl, by omega, by omega, (fun j hj h2 => by omega)⟩
  · rintro k st ⟨i, n, h1, x5, x13, x26, x62, ts, rfl, hk, hh, hil, hn, hr⟩
    subst hh
    repeat (first | with_reducible refine Rs.seqA ?_ | with_reducible refine Rs.seqRegion ?_ | with_reducible refine Rs.seqSkip ?_ | with_reducible refine Rs.lastRegion ?_ | refine Sq.o rfl rfl (fun _ => rfl) rfl ?_ | refine Sq.off rfl rfl ?_ | refine Sq.nil ?_)
    (first | rw [ilt_nat] | rw [ilt_oc] | rw [ilt_co] | rw [ilt_cc])
    by_cases hi : i < rows.length
    · rw [dec_t hi]
      repeat (first | with_reducible refine Rs.seqA ?_ | with_reducible refine Rs.seqRegion ?_ | with_reducible refine Rs.seqSkip ?_ | with_reducible refine Rs.lastRegion ?_ | refine Sq.o rfl rfl (fun _ => rfl) rfl ?_ | refine Sq.off rfl rfl ?_ | refine Sq.nil ?_)
      rw [c100]
      by_cases h100 : 100 < i
      · rw [dec_t h100]
        refine Rs.seqF rfl ?_
        refine Rs.seqExit ?_
        exact ⟨rfl, i, h1, _, _, _, _, _, _, _, rfl, rfl, hil, .inr h100, hr⟩
      · rw [dec_f h100]
        refine Rs.seqT rfl ?_
        repeat (first | with_reducible refine Rs.seqA ?_ | with_reducible refine Rs.seqRegion ?_ | with_reducible refine Rs.seqSkip ?_ | with_reducible refine Rs.lastRegion ?_ | refine Sq.o rfl rfl (fun _ => rfl) rfl ?_ | refine Sq.off rfl rfl ?_ | refine Sq.nil ?_)
        refine Rs.seqBlock ?_
        repeat (first | with_reducible refine Rs.seqA ?_ | with_reducible refine Rs.seqRegion ?_ | with_reducible refine Rs.seqSkip ?_ | with_reducible refine Rs.lastRegion ?_ | refine Sq.o rfl rfl (fun _ => rfl) rfl ?_ | refine Sq.off rfl rfl ?_ | refine Sq.nil ?_)
        obtain ⟨b0, o0, c0, cs, el, x, e1, e2, e3, e4⟩ := kv.at hi
        obtain ⟨ax, cx', ex⟩ := e4.slice
        cases e1
        subst ex
        refine Rs.seqLoop (fun k st => ∃ k2 n2 h2 x13 x26 x62 ts, st = ⟨⟨(.cons 0 (.slice (some ⟨b0, o0, none⟩) rows.length c) (.cons 2 (.bool false) (.cons 3 (.int .i64 (Int.ofNat n2)) (.cons 4 (.int .i64 (Int.ofNat i)) (.cons 5 (.int .i64 (Int.ofNat k2)) (.cons 13 (x13) (.cons 26 (x26) (.cons 62 (x62) .nil)))))))), ts⟩, [], h2⟩ ∧ (k2 + k = 101) ∧ (h2 = h1) ∧ (n2 ≤ i * 7000000 + k2 * 60003)) (fun st => ∃ n2 h2 x5 x13 x26 x62 ts, st = ⟨⟨(.cons 0 (.slice (some ⟨b0, o0, none⟩) rows.length c) (.cons 2 (.bool false) (.cons 3 (.int .i64 (Int.ofNat n2)) (.cons 4 (.int .i64 (Int.ofNat i)) (.cons 5 (x5) (.cons 13 (x13) (.cons 26 (x26) (.cons 62 (x62) .nil)))))))), ts⟩, [], h2⟩ ∧ (h2 = h1) ∧ (n2 ≤ i * 7000000 + 7000000)) ?_ ?_ (101) _ ⟨0, n, _, _, _, _, _, rfl, Nat.zero_add _, rfl, Nat.le_trans hn (Nat.le_add_right _ _)⟩
        · rintro k st ⟨k2, n2, h2, x13, x26, x62, ts, rfl, hk2, hh2, hn2⟩
          subst hh2
          repeat (first | with_reducible refine Rs.seqA ?_ | with_reducible refine Rs.seqRegion ?_ | with_reducible refine Rs.seqSkip ?_ | with_reducible refine Rs.lastRegion ?_ | refine Sq.o rfl rfl (fun _ => rfl) rfl ?_ | refine Sq.off rfl rfl ?_ | refine Sq.nil ?_)
          refine Sq.a rfl rfl (op_indexAddr rfl rfl hi rfl rfl) rfl ?_
          refine Sq.a rfl rfl (op_load rfl e2 e3) rfl ?_
          repeat (first | with_reducible refine Rs.seqA ?_ | with_reducible refine Rs.seqRegion ?_ | with_reducible refine Rs.seqSkip ?_ | with_reducible refine Rs.lastRegion ?_ | refine Sq.o rfl rfl (fun _ => rfl) rfl ?_ | refine Sq.off rfl rfl ?_ | refine Sq.nil ?_)
          (first | rw [ilt_nat] | rw [ilt_oc] | rw [ilt_co] | rw [ilt_cc])
          by_cases hj : k2 < rows[i].length
          · rw [dec_t hj]
            repeat (first | with_reducible refine Rs.seqA ?_ | with_reducible refine Rs.seqRegion ?_ | with_reducible refine Rs.seqSkip ?_ | with_reducible refine Rs.lastRegion ?_ | refine Sq.o rfl rfl (fun _ => rfl) rfl ?_ | refine Sq.off rfl rfl ?_ | refine Sq.nil ?_)
            rw [c100]
            by_cases hj100 : 100 < k2
            · rw [dec_t hj100]
              refine Rs.seqF rfl ?_
              refine Rs.seqExit ?_
              exact ⟨rfl, n2, h2, _, _, _, _, _, rfl, rfl, by omega⟩
            · rw [dec_f hj100]
              refine Rs.seqT rfl ?_
              repeat (first | with_reducible refine Rs.seqA ?_ | with_reducible refine Rs.seqRegion ?_ | with_reducible refine Rs.seqSkip ?_ | with_reducible refine Rs.lastRegion ?_ | refine Sq.o rfl rfl (fun _ => rfl) rfl ?_ | refine Sq.off rfl rfl ?_ | refine Sq.nil ?_)
              refine Rs.seqBlock ?_
              obtain ⟨b1, o1, c1, cs1, el1, f1, f2, f3⟩ := e4.at hj
              cases f1
              obtain ⟨t1, t2⟩ := part_text f3
              refine Rs.lastDraw (ord := [0, 1, 2, 3, 4, 5, 6, 7, 8, 9, 10, 11, 12, 13, 14, 15, 16, 17, 18, 19, 20, 21, 22, 23, 24]) true w (by kernel_rfl) (by kernel_rfl) ?_
              repeat (first | refine Dr.c rfl rfl rfl rfl rfl rfl ?_ | refine Dr.off rfl rfl rfl ?_)
              refine Dr.o rfl rfl rfl (op_add (b := 1) rfl rfl (by omega)) rfl ?_
              repeat (first | refine Dr.c rfl rfl rfl rfl rfl rfl ?_ | refine Dr.off rfl rfl rfl ?_)
              refine Dr.o rfl rfl rfl (op_indexAddr rfl rfl hi rfl rfl) rfl ?_
              refine Dr.r rfl rfl rfl (op_load rfl e2 e3) rfl (veq_slice _ _ _) ?_
              repeat (first | refine Dr.c rfl rfl rfl rfl rfl rfl ?_ | refine Dr.off rfl rfl rfl ?_)
              refine Dr.o rfl rfl rfl (op_indexAddr rfl rfl hj rfl rfl) rfl ?_
              repeat (first | refine Dr.c rfl rfl rfl rfl rfl rfl ?_ | refine Dr.off rfl rfl rfl ?_)
              refine Dr.r rfl rfl rfl (op_load rfl f2 t1) rfl (veq_str _) ?_
              refine Dr.r rfl rfl rfl rfl rfl (veq_int _ _) ?_
              refine Dr.o rfl rfl rfl (op_min (b := 30001) rfl rfl) rfl ?_
              refine Dr.o rfl rfl rfl (op_add rfl rfl (by omega)) rfl ?_
              repeat (first | refine Dr.c rfl rfl rfl rfl rfl rfl ?_ | refine Dr.off rfl rfl rfl ?_)
              refine Dr.o rfl rfl rfl (op_indexAddr rfl rfl hi rfl rfl) rfl ?_
              refine Dr.r rfl rfl rfl (op_load rfl e2 e3) rfl (veq_slice _ _ _) ?_
              repeat (first | refine Dr.c rfl rfl rfl rfl rfl rfl ?_ | refine Dr.off rfl rfl rfl ?_)
              refine Dr.o rfl rfl rfl (op_indexAddr rfl rfl hj rfl rfl) rfl ?_
              repeat (first | refine Dr.c rfl rfl rfl rfl rfl rfl ?_ | refine Dr.off rfl rfl rfl ?_)
              refine Dr.r rfl rfl rfl (op_load rfl f2 t2) rfl (veq_str _) ?_
              refine Dr.r rfl rfl rfl rfl rfl (veq_int _ _) ?_
              refine Dr.o rfl rfl rfl (op_min (b := 30001) rfl rfl) rfl ?_
              refine Dr.o rfl rfl rfl (op_add rfl rfl (by omega)) rfl ?_
              repeat (first | refine Dr.c rfl rfl rfl rfl rfl rfl ?_ | refine Dr.off rfl rfl rfl ?_)
              refine Dr.nil ?_
              refine Rs.lastRegion ?_
              repeat (first | with_reducible refine Rs.seqA ?_ | with_reducible refine Rs.seqRegion ?_ | with_reducible refine Rs.seqSkip ?_ | with_reducible refine Rs.lastRegion ?_ | refine Sq.o rfl rfl (fun _ => rfl) rfl ?_ | refine Sq.off rfl rfl ?_ | refine Sq.nil ?_)
              refine Sq.a rfl rfl (op_add (b := 1) rfl rfl (by omega)) rfl ?_
              repeat (first | with_reducible refine Rs.seqA ?_ | with_reducible refine Rs.seqRegion ?_ | with_reducible refine Rs.seqSkip ?_ | with_reducible refine Rs.lastRegion ?_ | refine Sq.o rfl rfl (fun _ => rfl) rfl ?_ | refine Sq.off rfl rfl ?_ | refine Sq.nil ?_)
              exact ⟨k - 1, by omega, k2 + 1, _, h2, _, _, _, _, rfl, by omega, rfl, by omega⟩
          · rw [dec_f hj]
            repeat (first | with_reducible refine Rs.seqA ?_ | with_reducible refine Rs.seqRegion ?_ | with_reducible refine Rs.seqSkip ?_ | with_reducible refine Rs.lastRegion ?_ | refine Sq.o rfl rfl (fun _ => rfl) rfl ?_ | refine Sq.off rfl rfl ?_ | refine Sq.nil ?_)
            refine Rs.seqF rfl ?_
            refine Rs.seqExit ?_
            exact ⟨rfl, n2, h2, _, _, _, _, _, rfl, rfl, by omega⟩
        · rintro st ⟨n2, h2, x5, x13, x26, x62, ts, rfl, hh2, hn2⟩
          subst hh2
          repeat (with_reducible refine Rs.seqA ?_)
          repeat (first | with_reducible refine Rs.seqA ?_ | with_reducible refine Rs.seqRegion ?_ | with_reducible refine Rs.seqSkip ?_ | with_reducible refine Rs.lastRegion ?_ | refine Sq.o rfl rfl (fun _ => rfl) rfl ?_ | refine Sq.off rfl rfl ?_ | refine Sq.nil ?_)
          rw [c3]
          by_cases hbig : 30000 < n2
          · rw [dec_t hbig]
            repeat (first | with_reducible refine Rs.seqA ?_ | with_reducible refine Rs.seqRegion ?_ | with_reducible refine Rs.seqSkip ?_ | with_reducible refine Rs.lastRegion ?_ | refine Sq.o rfl rfl (fun _ => rfl) rfl ?_ | refine Sq.off rfl rfl ?_ | refine Sq.nil ?_)
            refine Rs.cond (t := true) rfl (fun _ => ?_) (fun e => by cases e)
            repeat (first | with_reducible refine Rs.seqA ?_ | with_reducible refine Rs.seqRegion ?_ | with_reducible refine Rs.seqSkip ?_ | with_reducible refine Rs.lastRegion ?_ | refine Sq.o rfl rfl (fun _ => rfl) rfl ?_ | refine Sq.off rfl rfl ?_ | refine Sq.nil ?_)
            exact Rs.ret ⟨.inr rfl, _, _, _, rfl, rfl, rfl, rfl, true, rfl, fun e => by cases e⟩
          · rw [dec_f hbig]
            repeat (first | with_reducible refine Rs.seqA ?_ | with_reducible refine Rs.seqRegion ?_ | with_reducible refine Rs.seqSkip ?_ | with_reducible refine Rs.lastRegion ?_ | refine Sq.o rfl rfl (fun _ => rfl) rfl ?_ | refine Sq.off rfl rfl ?_ | refine Sq.nil ?_)
            refine Sq.a rfl rfl (op_indexAddr rfl rfl hi rfl rfl) rfl ?_
            refine Sq.a rfl rfl (op_load rfl e2 e3) rfl ?_
            repeat (first | with_reducible refine Rs.seqA ?_ | with_reducible refine Rs.seqRegion ?_ | with_reducible refine Rs.seqSkip ?_ | with_reducible refine Rs.lastRegion ?_ | refine Sq.o rfl rfl (fun _ => rfl) rfl ?_ | refine Sq.off rfl rfl ?_ | refine Sq.nil ?_)
            rw [c4]
            by_cases hlong : 100 < rows[i].length
            · rw [dec_t hlong]
              refine Rs.cond (t := true) rfl (fun _ => ?_) (fun e => by cases e)
              repeat (first | with_reducible refine Rs.seqA ?_ | with_reducible refine Rs.seqRegion ?_ | with_reducible refine Rs.seqSkip ?_ | with_reducible refine Rs.lastRegion ?_ | refine Sq.o rfl rfl (fun _ => rfl) rfl ?_ | refine Sq.off rfl rfl ?_ | refine Sq.nil ?_)
              exact Rs.ret ⟨.inr rfl, _, _, _, rfl, rfl, rfl, rfl, true, rfl, fun e => by cases e⟩
            · rw [dec_f hlong]
              refine Rs.cond (t := false) rfl (fun e => by cases e) (fun _ => ?_)
              refine Rs.skip ?_
              refine Rs.lastRegion ?_
              repeat (first | with_reducible refine Rs.seqA ?_ | with_reducible refine Rs.seqRegion ?_ | with_reducible refine Rs.seqSkip ?_ | with_reducible refine Rs.lastRegion ?_ | refine Sq.o rfl rfl (fun _ => rfl) rfl ?_ | refine Sq.off rfl rfl ?_ | refine Sq.nil ?_)
              refine Sq.a rfl rfl (op_add (b := 1) rfl rfl (by omega)) rfl ?_
              repeat (first | with_reducible refine Rs.seqA ?_ | with_reducible refine Rs.seqRegion ?_ | with_reducible refine Rs.seqSkip ?_ | with_reducible refine Rs.lastRegion ?_ | refine Sq.o rfl rfl (fun _ => rfl) rfl ?_ | refine Sq.off rfl rfl ?_ | refine Sq.nil ?_)
              exact ⟨k - 1, by omega, i + 1, n2, h2, _, _, _, _, _, rfl, by omega, rfl, by omega, by omega, (fun j hj q => by
                by_cases e : j = i
                · subst e; omega
                · exact hr j hj (by omega))⟩
    · rw [dec_f hi]
      repeat (first | with_reducible refine Rs.seqA ?_ | with_reducible refine Rs.seqRegion ?_ | with_reducible refine Rs.seqSkip ?_ | with_reducible refine Rs.lastRegion ?_ | refine Sq.o rfl rfl (fun _ => rfl) rfl ?_ | refine Sq.off rfl rfl ?_ | refine Sq.nil ?_)
      refine Rs.seqF rfl ?_
      refine Rs.seqExit ?_
      exact ⟨rfl, i, h1, _, _, _, _, _, _, _, rfl, rfl, hil, .inl (by omega), hr⟩
  · rintro st ⟨i, h1, x3, x4, x5, x13, x26, x62, ts, rfl, hh, hil, hx, hr⟩
    subst hh
    repeat (first | with_reducible refine Rs.seqA ?_ | with_reducible refine Rs.seqRegion ?_ | with_reducible refine Rs.seqSkip ?_ | with_reducible refine Rs.lastRegion ?_ | refine Sq.o rfl rfl (fun _ => rfl) rfl ?_ | refine Sq.off rfl rfl ?_ | refine Sq.nil ?_)
    rw [c4]
    refine Rs.ret ⟨.inr rfl, _, _, _, rfl, rfl, rfl, rfl, _, rfl, fun hb => ?_⟩
    simp at hb
    refine ⟨hb, fun r hr2 => ?_⟩
    obtain ⟨j, hj, rfl⟩ := List.mem_iff_getElem.1 hr2
    exact hr j hj (by omega)
end Go.RA
namespace Go.RA
set_option maxRecDepth 100000

theorem veq_av (y : Bool) (a : Option Addr) (n c : Nat) : veq (av y (.slice a n c)) (av y (.slice a n c)) = true := by simp [veq, av, veqs, veq1]
theorem run30c {h : AH} (_w : h.WF) : Cl EA 30 [] h (fun v h' => v = .bool true ∧ h' = h) := Cl.memo rfl rfl ⟨rfl, rfl⟩
theorem short_of {l : List (List Tm)} (h : ∀ r ∈ l, r.length ≤ 100) : Short l := fun r hr => by have := h r hr; omega
set_option maxHeartbeats 1000000 in
theorem run6 {l o : List (List Tm)} {vl vo : Value} {yes : Bool} {h : AH} (w : h.WF) (kl : RowsV h vl l) (ko : RowsV h vo o) :
    Cl EA 6 [vl, vo, .bool yes] h (fun v h' => v = .bool true ∧ GR h h') := by
  obtain ⟨al, cl, el⟩ := kl.slice
  obtain ⟨ao, co, eo⟩ := ko.slice
  refine Cl.fn Go.Proofs.Tryz.f6 77 37778949894947857269703 [.tmp 6] rfl rfl (by kernel_rfl) rfl rfl (by kernel_rfl) rfl rfl ?_
  repeat (first | with_reducible refine Rs.seqA ?_ | with_reducible refine Rs.seqRegion ?_ | with_reducible refine Rs.seqSkip ?_ | with_reducible refine Rs.lastRegion ?_ | refine Sq.o rfl rfl (fun _ => rfl) rfl ?_ | refine Sq.off rfl rfl ?_ | refine Sq.nil ?_)
  refine Sq.call rfl rfl rfl rfl (Cv.f ((run29 w kl).mono fun v h1 hv => ?_))
  obtain ⟨rfl, b1, rfl, hb1⟩ := hv
  refine ⟨_, rfl, ?_⟩
  cases b1 with
  | true =>
    repeat (first | with_reducible refine Rs.seqA ?_ | with_reducible refine Rs.seqRegion ?_ | with_reducible refine Rs.seqSkip ?_ | with_reducible refine Rs.lastRegion ?_ | refine Sq.o rfl rfl (fun _ => rfl) rfl ?_ | refine Sq.off rfl rfl ?_ | refine Sq.nil ?_)
    refine Rs.seqT rfl ?_
    repeat (first | with_reducible refine Rs.seqA ?_ | with_reducible refine Rs.seqRegion ?_ | with_reducible refine Rs.seqSkip ?_ | with_reducible refine Rs.lastRegion ?_ | refine Sq.o rfl rfl (fun _ => rfl) rfl ?_ | refine Sq.off rfl rfl ?_ | refine Sq.nil ?_)
    exact Rs.seqRet ⟨.inr rfl, _, _, _, rfl, rfl, rfl, rfl, GR.refl w⟩
  | false =>
  repeat (first | with_reducible refine Rs.seqA ?_ | with_reducible refine Rs.seqRegion ?_ | with_reducible refine Rs.seqSkip ?_ | with_reducible refine Rs.lastRegion ?_ | refine Sq.o rfl rfl (fun _ => rfl) rfl ?_ | refine Sq.off rfl rfl ?_ | refine Sq.nil ?_)
  refine Sq.call rfl rfl rfl rfl (Cv.f ((run29 w ko).mono fun v h2 hv => ?_))
  obtain ⟨rfl, b2, rfl, hb2⟩ := hv
  refine ⟨_, rfl, ?_⟩
  cases b2 with
  | true =>
    repeat (first | with_reducible refine Rs.seqA ?_ | with_reducible refine Rs.seqRegion ?_ | with_reducible refine Rs.seqSkip ?_ | with_reducible refine Rs.lastRegion ?_ | refine Sq.o rfl rfl (fun _ => rfl) rfl ?_ | refine Sq.off rfl rfl ?_ | refine Sq.nil ?_)
    refine Rs.seqT rfl ?_
    repeat (first | with_reducible refine Rs.seqA ?_ | with_reducible refine Rs.seqRegion ?_ | with_reducible refine Rs.seqSkip ?_ | with_reducible refine Rs.lastRegion ?_ | refine Sq.o rfl rfl (fun _ => rfl) rfl ?_ | refine Sq.off rfl rfl ?_ | refine Sq.nil ?_)
    exact Rs.seqRet ⟨.inr rfl, _, _, _, rfl, rfl, rfl, rfl, GR.refl w⟩
  | false =>
  obtain ⟨ll, lr⟩ := hb1 rfl
  obtain ⟨ol, or⟩ := hb2 rfl
  have sl := short_of lr
  have so := short_of or
  subst el
  subst eo
  repeat (first | with_reducible refine Rs.seqA ?_ | with_reducible refine Rs.seqRegion ?_ | with_reducible refine Rs.seqSkip ?_ | with_reducible refine Rs.lastRegion ?_ | refine Sq.o rfl rfl (fun _ => rfl) rfl ?_ | refine Sq.off rfl rfl ?_ | refine Sq.nil ?_)
  refine Rs.seqF rfl ?_
  repeat (first | with_reducible refine Rs.seqA ?_ | with_reducible refine Rs.seqRegion ?_ | with_reducible refine Rs.seqSkip ?_ | with_reducible refine Rs.lastRegion ?_ | refine Sq.o rfl rfl (fun _ => rfl) rfl ?_ | refine Sq.off rfl rfl ?_ | refine Sq.nil ?_)
  refine Sq.push w rfl rfl (op_alloc rfl rfl) rfl fun h3 g3 q3 s3 => ?_
  refine Sq.push g3.wf rfl rfl (op_alloc rfl rfl) rfl fun h4 g4 q4 s4 => ?_
  have q3 := g4.keep _ _ q3
  refine Sq.store g4.wf rfl rfl rfl rfl q3 rfl rfl rfl fun h5 p5 => ?_
  have g5 := (g3.trans g4).put p5 w (Nat.le_refl _)
  have q4 : h5.get h3.size = _ := (p5.other _ (by have := s3; omega)).trans q4
  refine Sq.store p5.wf rfl rfl rfl rfl q4 rfl rfl rfl fun h6 p6 => ?_
  have g6 := g5.put p6 w g3.size
  have q3 := (p6.other _ (by have := s3; omega)).trans p5.is
  have q4 := p6.is
  repeat (first | with_reducible refine Rs.seqA ?_ | with_reducible refine Rs.seqRegion ?_ | with_reducible refine Rs.seqSkip ?_ | with_reducible refine Rs.lastRegion ?_ | refine Sq.o rfl rfl (fun _ => rfl) rfl ?_ | refine Sq.off rfl rfl ?_ | refine Sq.nil ?_)
  have kl6 := kl.keep g6.keep
  have ko6 := ko.keep g6.keep
  refine Rs.seqDraw (ord := [0, 1, 3, 4, 2, 5, 6, 7, 8, 10, 9, 11, 12, 13, 14, 15, 16, 18, 17, 19, 20, 21, 22]) true p6.wf (by kernel_rfl) (by kernel_rfl) (Dr.mono (Q := fun tm' h' => ∃ ts x7 x8, tm' = ⟨(.cons 0 (.slice al l.length cl) (.cons 1 (.slice ao o.length co) (.cons 2 (.bool yes) (.cons 6 (.bool false) (.cons 7 (x7) (.cons 8 (x8) (.cons 9 (undef) (.cons 15 (.bool false) (.cons 44 (.bool false) (.cons 54 (undef) (.cons 75 (undef) .nil))))))))))), ts⟩ ∧ GR h2 h') ?_ ?_)
  · refine Dr.r rfl rfl rfl (op_load (v := av yes (.slice al l.length cl)) rfl q3 rfl) rfl (veq_av _ _ _ _) ?_
    refine Dr.r rfl rfl rfl (op_load (v := av true (.slice ao o.length co)) rfl q4 rfl) rfl (veq_av _ _ _ _) ?_
    refine Dr.r rfl rfl rfl (op_load (v := av yes (.slice al l.length cl)) rfl q3 rfl) rfl (veq_av _ _ _ _) ?_
    refine Dr.r rfl rfl rfl (op_load (v := av true (.slice ao o.length co)) rfl q4 rfl) rfl (veq_av _ _ _ _) ?_
    refine Dr.call rfl rfl rfl rfl rfl (Cv.f ((run36 p6.wf kl6 ko6 (by omega) sl so).mono fun v h7 hv => ?_))
    obtain ⟨rfl, g7⟩ := hv
    refine ⟨g7.size, g7.wf, fun _ => g7.keep, _, rfl, ?_⟩
    refine Dr.call rfl rfl rfl rfl rfl (Cv.f ((run37 g7.wf (kl6.keep g7.keep) (ko6.keep g7.keep) (by omega) sl so).mono fun v h8 hv => ?_))
    obtain ⟨rfl, g8⟩ := hv
    refine ⟨g8.size, g8.wf, fun _ => g8.keep, _, rfl, ?_⟩
    generalize (yes == true && decide (cmpRs l o = 0)) = bb
    refine Dr.o (v := .bool false) rfl rfl rfl (by cases bb <;> rfl) rfl ?_
    repeat (first | refine Dr.c rfl rfl rfl rfl rfl rfl ?_ | refine Dr.off rfl rfl rfl ?_)
    have g78 := (g6.trans g7).trans g8
    refine Dr.call rfl rfl rfl rfl rfl (Cv.f ((run39b g8.wf (kl.keep g78.keep) (by omega) sl).mono fun v h9 hv => ?_))
    obtain ⟨k9, g9⟩ := hv
    refine ⟨g9.size, g9.wf, fun _ => g9.keep, _, rfl, ?_⟩
    have gg9 := g78.trans g9
    refine Dr.call rfl rfl rfl rfl rfl (Cv.f ((run40 g9.wf (kl.keep gg9.keep) (by omega) sl).mono fun v h10 hv => ?_))
    obtain ⟨b10, k10, g10, _⟩ := hv
    refine ⟨g10.size, g10.wf, fun _ => g10.keep, _, rfl, ?_⟩
    have gg10 := gg9.trans g10
    have lf := insAll_len false l
    refine Dr.call rfl rfl rfl rfl rfl (Cv.f ((run38 g10.wf (k9.keep g10.keep) k10.rows (by omega) (insAll_short sl) (insAll_short sl)).mono fun v h11 hv => ?_))
    obtain ⟨rfl, g11⟩ := hv
    refine ⟨g11.size, g11.wf, fun _ => g11.keep, _, rfl, ?_⟩
    have gg11 := gg10.trans g11
    have e0 : decide (cmpRs (insAll false l) (insAll false l) = 0) = true := dec_t (ord_rows.refl _)
    rw [e0]
    repeat (first | refine Dr.c rfl rfl rfl rfl rfl rfl ?_ | refine Dr.off rfl rfl rfl ?_)
    refine Dr.call rfl rfl rfl rfl rfl (Cv.f ((run41 g11.wf (kl.keep gg11.keep) (by omega) sl).mono fun v h12 hv => ?_))
    obtain ⟨k12, g12⟩ := hv
    refine ⟨g12.size, g12.wf, fun _ => g12.keep, _, rfl, ?_⟩
    have gg12 := gg11.trans g12
    refine Dr.call rfl rfl rfl rfl rfl (Cv.f ((run42 g12.wf (kl.keep gg12.keep) (by omega) sl).mono fun v h13 hv => ?_))
    obtain ⟨b13, k13, g13, _⟩ := hv
    refine ⟨g13.size, g13.wf, fun _ => g13.keep, _, rfl, ?_⟩
    have gg13 := gg12.trans g13
    have lt := insAll_len true l
    refine Dr.call rfl rfl rfl rfl rfl (Cv.f ((run38 g13.wf (k12.keep g13.keep) k13.rows (by omega) (insAll_short sl) (insAll_short sl)).mono fun v h14 hv => ?_))
    obtain ⟨rfl, g14⟩ := hv
    refine ⟨g14.size, g14.wf, fun _ => g14.keep, _, rfl, ?_⟩
    have e1 : decide (cmpRs (insAll true l) (insAll true l) = 0) = true := dec_t (ord_rows.refl _)
    rw [e1]
    repeat (first | refine Dr.c rfl rfl rfl rfl rfl rfl ?_ | refine Dr.off rfl rfl rfl ?_)
    exact Dr.nil ⟨_, _, _, rfl, gg13.trans g14⟩
  · rintro tm' h7 ⟨ts, x7, x8, rfl, g7⟩
    refine Rs.seqF rfl ?_
    repeat (first | with_reducible refine Rs.seqA ?_ | with_reducible refine Rs.seqRegion ?_ | with_reducible refine Rs.seqSkip ?_ | with_reducible refine Rs.lastRegion ?_ | refine Sq.o rfl rfl (fun _ => rfl) rfl ?_ | refine Sq.off rfl rfl ?_ | refine Sq.nil ?_)
    refine Rs.seqLoop (fun k st => ∃ i h8 x2 x7 x8 x15 x44 x54 x75 ts, st = ⟨⟨(.cons 0 (.slice al l.length cl) (.cons 1 (.slice ao o.length co) (.cons 2 (x2) (.cons 6 (.bool false) (.cons 7 (x7) (.cons 8 (x8) (.cons 9 (.int .i64 (Int.ofNat i)) (.cons 15 (x15) (.cons 44 (x44) (.cons 54 (x54) (.cons 75 (x75) .nil))))))))))), ts⟩, [], h8⟩ ∧ (i + k = l.length) ∧ (i ≤ l.length) ∧ (GR h2 h8)) (fun st => ∃ h8 x1 x2 x6 x7 x8 x9 x15 x44 x54 x75 ts, st = ⟨⟨(.cons 0 (.slice al l.length cl) (.cons 1 (x1) (.cons 2 (x2) (.cons 6 (x6) (.cons 7 (x7) (.cons 8 (x8) (.cons 9 (x9) (.cons 15 (x15) (.cons 44 (x44) (.cons 54 (x54) (.cons 75 (x75) .nil))))))))))), ts⟩, [], h8⟩ ∧ (GR h2 h8)) ?_ ?_ (l.length) _ ⟨0, _, _, _, _, _, _, _, _, _, rfl, Nat.zero_add _, Nat.zero_le _, g7⟩
    · rintro k st ⟨i, h8, x2, x7, x8, x15, x44, x54, x75, ts, rfl, hk, hi, g8⟩
      have kl8 := kl.keep g8.keep
      have ko8 := ko.keep g8.keep
      repeat (first | with_reducible refine Rs.seqA ?_ | with_reducible refine Rs.seqRegion ?_ | with_reducible refine Rs.seqSkip ?_ | with_reducible refine Rs.lastRegion ?_ | refine Sq.o rfl rfl (fun _ => rfl) rfl ?_ | refine Sq.off rfl rfl ?_ | refine Sq.nil ?_)
      (first | rw [ilt_nat] | rw [ilt_oc] | rw [ilt_co] | rw [ilt_cc])
      by_cases hil : i < l.length
      · rw [dec_t hil]
        repeat (first | with_reducible refine Rs.seqA ?_ | with_reducible refine Rs.seqRegion ?_ | with_reducible refine Rs.seqSkip ?_ | with_reducible refine Rs.lastRegion ?_ | refine Sq.o rfl rfl (fun _ => rfl) rfl ?_ | refine Sq.off rfl rfl ?_ | refine Sq.nil ?_)
        (first | rw [ilt_nat] | rw [ilt_oc] | rw [ilt_co] | rw [ilt_cc])
        by_cases hio : i < o.length
        · rw [dec_t hio]
          refine Rs.seqT rfl ?_
          repeat (first | with_reducible refine Rs.seqA ?_ | with_reducible refine Rs.seqRegion ?_ | with_reducible refine Rs.seqSkip ?_ | with_reducible refine Rs.lastRegion ?_ | refine Sq.o rfl rfl (fun _ => rfl) rfl ?_ | refine Sq.off rfl rfl ?_ | refine Sq.nil ?_)
          refine Rs.seqBlock ?_
          obtain ⟨b, of, c, cs, el, xa, e1, e2, e3, e4⟩ := kl8.at hil
          obtain ⟨b', of', c', cs', el', xb, e1', e2', e3', e4'⟩ := ko8.at hio
          cases e1
          cases e1'
          refine Rs.seqDraw (ord := [0, 1, 2, 3, 4, 5, 6, 7, 9, 10, 11, 12, 13, 14, 15, 16, 8, 17, 18]) true g8.wf (by kernel_rfl) (by kernel_rfl) ?_
          repeat (first | refine Dr.c rfl rfl rfl rfl rfl rfl ?_ | refine Dr.off rfl rfl rfl ?_)
          refine Dr.o rfl rfl rfl (op_indexAddr rfl rfl hil rfl rfl) rfl ?_
          refine Dr.r rfl rfl rfl (op_load rfl e2 e3) rfl (veq_row e4) ?_
          repeat (first | refine Dr.c rfl rfl rfl rfl rfl rfl ?_ | refine Dr.off rfl rfl rfl ?_)
          refine Dr.o rfl rfl rfl (op_indexAddr rfl rfl hio rfl rfl) rfl ?_
          refine Dr.r rfl rfl rfl (op_load rfl e2' e3') rfl (veq_row e4') ?_
          repeat (first | refine Dr.c rfl rfl rfl rfl rfl rfl ?_ | refine Dr.off rfl rfl rfl ?_)
          refine Dr.o rfl rfl rfl (op_indexAddr rfl rfl hil rfl rfl) rfl ?_
          refine Dr.r rfl rfl rfl (op_load rfl e2 e3) rfl (veq_row e4) ?_
          repeat (first | refine Dr.c rfl rfl rfl rfl rfl rfl ?_ | refine Dr.off rfl rfl rfl ?_)
          refine Dr.o rfl rfl rfl (op_indexAddr rfl rfl hio rfl rfl) rfl ?_
          refine Dr.r rfl rfl rfl (op_load rfl e2' e3') rfl (veq_row e4') ?_
          refine Dr.call rfl rfl rfl rfl rfl (Cv.f ((run43 g8.wf e4 e4' (sl.at hil) (so.at hio)).mono fun v h9 hv => ?_))
          obtain ⟨rfl, g9⟩ := hv
          refine ⟨g9.size, g9.wf, fun _ => g9.keep, _, rfl, ?_⟩
          refine Dr.call rfl rfl rfl rfl rfl (Cv.f ((run44 g9.wf (e4.keep g9.keep) (e4'.keep g9.keep) (sl.at hil) (so.at hio)).mono fun v h10 hv => ?_))
          obtain ⟨rfl, g10⟩ := hv
          refine ⟨g10.size, g10.wf, fun _ => g10.keep, _, rfl, ?_⟩
          repeat (first | refine Dr.c rfl rfl rfl rfl rfl rfl ?_ | refine Dr.off rfl rfl rfl ?_)
          refine Dr.nil ?_
          have hn : (!ieq (cmpR l[i] o[i]) (cmpR l[i] o[i])) = false := by rw [ieq_dec]; simp
          rw [hn]
          refine Rs.cond (t := false) rfl (fun e => by cases e) (fun _ => ?_)
          refine Rs.skip ?_
          refine Rs.lastRegion ?_
          repeat (first | with_reducible refine Rs.seqA ?_ | with_reducible refine Rs.seqRegion ?_ | with_reducible refine Rs.seqSkip ?_ | with_reducible refine Rs.lastRegion ?_ | refine Sq.o rfl rfl (fun _ => rfl) rfl ?_ | refine Sq.off rfl rfl ?_ | refine Sq.nil ?_)
          refine Sq.a rfl rfl (op_add (b := 1) rfl rfl (by omega)) rfl ?_
          repeat (first | with_reducible refine Rs.seqA ?_ | with_reducible refine Rs.seqRegion ?_ | with_reducible refine Rs.seqSkip ?_ | with_reducible refine Rs.lastRegion ?_ | refine Sq.o rfl rfl (fun _ => rfl) rfl ?_ | refine Sq.off rfl rfl ?_ | refine Sq.nil ?_)
          exact ⟨k - 1, by omega, i + 1, h10, _, _, _, _, _, _, _, _, rfl, by omega, by omega, (g8.trans g9).trans g10⟩
        · rw [dec_f hio]
          refine Rs.seqF rfl ?_
          refine Rs.seqExit ?_
          exact ⟨rfl, h8, _, _, _, _, _, _, _, _, _, _, _, rfl, g8⟩
      · rw [dec_f hil]
        repeat (first | with_reducible refine Rs.seqA ?_ | with_reducible refine Rs.seqRegion ?_ | with_reducible refine Rs.seqSkip ?_ | with_reducible refine Rs.lastRegion ?_ | refine Sq.o rfl rfl (fun _ => rfl) rfl ?_ | refine Sq.off rfl rfl ?_ | refine Sq.nil ?_)
        refine Rs.seqF rfl ?_
        refine Rs.seqExit ?_
        exact ⟨rfl, h8, _, _, _, _, _, _, _, _, _, _, _, rfl, g8⟩
    · rintro st ⟨h8, x1, x2, x6, x7, x8, x9, x15, x44, x54, x75, ts, rfl, g8⟩
      repeat (first | with_reducible refine Rs.seqA ?_ | with_reducible refine Rs.seqRegion ?_ | with_reducible refine Rs.seqSkip ?_ | with_reducible refine Rs.lastRegion ?_ | refine Sq.o rfl rfl (fun _ => rfl) rfl ?_ | refine Sq.off rfl rfl ?_ | refine Sq.nil ?_)
      exact Rs.ret ⟨.inr rfl, _, _, _, rfl, rfl, rfl, rfl, g8⟩
end Go.RA
