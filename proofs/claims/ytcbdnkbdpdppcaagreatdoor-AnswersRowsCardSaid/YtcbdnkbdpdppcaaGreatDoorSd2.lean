/-
  What the functions of package answers that insert and compare rows compute, over the evaluator. No condition.
-/
import Derived.Test.YtcbdnkbdpdppcaaGreatDoorSd1
namespace Go.RA
set_option maxRecDepth 100000

def findAt : List (List Tm) → List Tm → Nat
  | [], _ => 0
  | r :: rs, x => if cmpR r x < 0 then findAt rs x + 1 else 0
def dupR (rows : List (List Tm)) (x : List Tm) : Bool := match rows[findAt rows x]? with | some r => decide (cmpR r x = 0) | none => false
def insR (rows : List (List Tm)) (x : List Tm) (once : Bool) : List (List Tm) :=
  if (once && dupR rows x) = true then rows else rows.take (findAt rows x) ++ x :: rows.drop (findAt rows x)
theorem findAt_le (rows : List (List Tm)) (x : List Tm) : findAt rows x ≤ rows.length := by
  induction rows with
  | nil => exact Nat.le_refl _
  | cons r rs ih => simp only [findAt]; split <;> simp; exact ih
theorem run101 {rows : List (List Tm)} {x : List Tm} {va v : Value} {once : Bool} {h : AH} {b : Nat} (w : h.WF) (ko : OwnV h b v rows) (kr : RowV h va x) (hl : rows.length + 1 ≤ 1000000) (sr : Short rows) (sx : x.length < 1000000) :
    Cl EA 101 [v, va, .bool once] h (fun v' h' => ∃ b', OwnV h' b' v' (insR rows x once) ∧ KX b h h' ∧ (b' = b ∨ h.size ≤ b')) := by
  obtain ⟨a, c, e⟩ := ko.slice
  refine Cl.fn Go.Proofs.Tryz.f101 56 274878955719 [.tmp 6] rfl rfl (by kernel_rfl) rfl rfl (by kernel_rfl) rfl rfl ?_
  repeat (first | with_reducible refine Rs.seqA ?_ | with_reducible refine Rs.seqRegion ?_ | with_reducible refine Rs.seqSkip ?_ | with_reducible refine Rs.lastRegion ?_ | refine Sq.o rfl rfl (fun _ => rfl) rfl ?_ | refine Sq.off rfl rfl ?_ | refine Sq.nil ?_)
  refine Rs.seqLoop (fun k st => ∃ i h1 x20 x38 ts, st = ⟨⟨(.cons 0 (v) (.cons 1 (va) (.cons 2 (.bool once) (.cons 6 (.slice none 0 0) (.cons 7 (.int .i64 (Int.ofNat i)) (.cons 20 (x20) (.cons 38 (x38) .nil))))))), ts⟩, [], h1⟩ ∧ i + k = rows.length ∧ findAt rows x = i + findAt (rows.drop i) x ∧ GR h h1) (fun st => ∃ h1 x20 x38 ts, st = ⟨⟨(.cons 0 (v) (.cons 1 (va) (.cons 2 (.bool once) (.cons 6 (.slice none 0 0) (.cons 7 (.int .i64 (Int.ofNat (findAt rows x))) (.cons 20 (x20) (.cons 38 (x38) .nil))))))), ts⟩, [], h1⟩ ∧ GR h h1) ?_ ?_ (rows.length) _ ⟨0, _, _, _, _, rfl, by simp, by simp, GR.refl w⟩
  · rintro k st ⟨i, h1, x20, x38, ts, rfl, hk, hat, g1⟩
    have ko1 := ko.keep g1.keep
    have kr1 := kr.keep g1.keep
    have kv1 := ko1.rows
    subst e
    repeat (first | with_reducible refine Rs.seqA ?_ | with_reducible refine Rs.seqRegion ?_ | with_reducible refine Rs.seqSkip ?_ | with_reducible refine Rs.lastRegion ?_ | refine Sq.o rfl rfl (fun _ => rfl) rfl ?_ | refine Sq.off rfl rfl ?_ | refine Sq.nil ?_)
    by_cases hi : i < rows.length
    · (first | rw [ilt_nat] | rw [ilt_oc] | rw [ilt_co] | rw [ilt_cc])
      rw [dec_t hi]
      obtain ⟨b0, o0, c0, cs, el, xa, e1, e2, e3, e4⟩ := kv1.at hi
      cases e1
      repeat (first | with_reducible refine Rs.seqA ?_ | with_reducible refine Rs.seqRegion ?_ | with_reducible refine Rs.seqSkip ?_ | with_reducible refine Rs.lastRegion ?_ | refine Sq.o rfl rfl (fun _ => rfl) rfl ?_ | refine Sq.off rfl rfl ?_ | refine Sq.nil ?_)
      refine Sq.a rfl rfl (op_indexAddr rfl rfl hi rfl rfl) rfl ?_
      refine Sq.a rfl rfl (op_load rfl e2 e3) rfl ?_
      repeat (first | with_reducible refine Rs.seqA ?_ | with_reducible refine Rs.seqRegion ?_ | with_reducible refine Rs.seqSkip ?_ | with_reducible refine Rs.lastRegion ?_ | refine Sq.o rfl rfl (fun _ => rfl) rfl ?_ | refine Sq.off rfl rfl ?_ | refine Sq.nil ?_)
      refine Sq.call rfl rfl rfl rfl (Cv.f ((run44 g1.wf e4 kr1 (sr.at hi) sx).mono fun v h2 hv => ?_))
      obtain ⟨rfl, g2⟩ := hv
      refine ⟨_, rfl, ?_⟩
      have hd : rows.drop i = rows[i] :: rows.drop (i + 1) := List.drop_eq_getElem_cons hi
      rw [hd] at hat
      repeat (first | with_reducible refine Rs.seqA ?_ | with_reducible refine Rs.seqRegion ?_ | with_reducible refine Rs.seqSkip ?_ | with_reducible refine Rs.lastRegion ?_ | refine Sq.o rfl rfl (fun _ => rfl) rfl ?_ | refine Sq.off rfl rfl ?_ | refine Sq.nil ?_)
      by_cases hc : cmpR rows[i] x < 0
      · have hb : ilt (cmpR rows[i] x) 0 = true := by rw [ilt_dec, dec_t hc]
        refine Rs.seqCond rfl (fun _ => ?_) (fun e => absurd (e.symm.trans hb) (by simp))
        repeat (first | with_reducible refine Rs.seqA ?_ | with_reducible refine Rs.seqRegion ?_ | with_reducible refine Rs.seqSkip ?_ | with_reducible refine Rs.lastRegion ?_ | refine Sq.o rfl rfl (fun _ => rfl) rfl ?_ | refine Sq.off rfl rfl ?_ | refine Sq.nil ?_)
        refine Rs.block ?_
        repeat (first | with_reducible refine Rs.seqA ?_ | with_reducible refine Rs.seqRegion ?_ | with_reducible refine Rs.seqSkip ?_ | with_reducible refine Rs.lastRegion ?_ | refine Sq.o rfl rfl (fun _ => rfl) rfl ?_ | refine Sq.off rfl rfl ?_ | refine Sq.nil ?_)
        refine Sq.a rfl rfl (op_add (b := 1) rfl rfl (by omega)) rfl ?_
        repeat (first | with_reducible refine Rs.seqA ?_ | with_reducible refine Rs.seqRegion ?_ | with_reducible refine Rs.seqSkip ?_ | with_reducible refine Rs.lastRegion ?_ | refine Sq.o rfl rfl (fun _ => rfl) rfl ?_ | refine Sq.off rfl rfl ?_ | refine Sq.nil ?_)
        simp only [findAt, if_pos hc] at hat
        exact ⟨rows.length - (i + 1), by omega, i + 1, _, _, _, _, rfl, by omega, by omega, g1.trans g2⟩
      · have hb : ilt (cmpR rows[i] x) 0 = false := by rw [ilt_dec, dec_f hc]
        refine Rs.seqCond rfl (fun e => absurd (e.symm.trans hb) (by simp)) (fun _ => ?_)
        simp only [findAt, if_neg hc, Nat.add_zero] at hat
        subst hat
        refine Rs.seqExit ?_
        exact ⟨rfl, _, _, _, _, rfl, g1.trans g2⟩
    · (first | rw [ilt_nat] | rw [ilt_oc] | rw [ilt_co] | rw [ilt_cc])
      rw [dec_f hi]
      repeat (first | with_reducible refine Rs.seqA ?_ | with_reducible refine Rs.seqRegion ?_ | with_reducible refine Rs.seqSkip ?_ | with_reducible refine Rs.lastRegion ?_ | refine Sq.o rfl rfl (fun _ => rfl) rfl ?_ | refine Sq.off rfl rfl ?_ | refine Sq.nil ?_)
      have : i = rows.length := by omega
      rw [List.drop_eq_nil_of_le (by omega)] at hat
      simp only [findAt, Nat.add_zero] at hat
      subst hat
      refine Rs.seqF rfl ?_
      refine Rs.seqExit ?_
      exact ⟨rfl, _, _, _, _, rfl, g1⟩
  · rintro st ⟨h1, x20, x38, ts, rfl, g1⟩
    have hdup : dupR rows x = (match rows[findAt rows x]? with | some r => decide (cmpR r x = 0) | none => false) := rfl
    have hins : insR rows x once = if (once && dupR rows x) = true then rows else rows.take (findAt rows x) ++ x :: rows.drop (findAt rows x) := rfl
    generalize hn : findAt rows x = n at hdup hins ⊢
    have hnl : n ≤ rows.length := by rw [← hn]; exact findAt_le rows x
    have ko1 := ko.keep g1.keep
    have kr1 := kr.keep g1.keep
    have kv1 := ko1.rows
    subst e
    repeat (with_reducible refine Rs.seqA ?_)
    refine Rs.seqRegion (Sq.mono (Q := fun tm' h' => ∃ x20 ts, tm' = ⟨(.cons 0 (.slice a rows.length c) (.cons 1 (va) (.cons 2 (.bool once) (.cons 6 (.slice none 0 0) (.cons 7 (.int .i64 (Int.ofNat n)) (.cons 20 (x20) (.cons 38 (.bool (once && dupR rows x)) .nil))))))), ts⟩ ∧ GR h h') ?_ ?_)
    · repeat (first | with_reducible refine Rs.seqA ?_ | with_reducible refine Rs.seqRegion ?_ | with_reducible refine Rs.seqSkip ?_ | with_reducible refine Rs.lastRegion ?_ | refine Sq.o rfl rfl (fun _ => rfl) rfl ?_ | refine Sq.off rfl rfl ?_ | refine Sq.nil ?_)
      cases ho : once with
      | false =>
        repeat (first | with_reducible refine Rs.seqA ?_ | with_reducible refine Rs.seqRegion ?_ | with_reducible refine Rs.seqSkip ?_ | with_reducible refine Rs.lastRegion ?_ | refine Sq.o rfl rfl (fun _ => rfl) rfl ?_ | refine Sq.off rfl rfl ?_ | refine Sq.nil ?_)
        exact ⟨_, _, rfl, g1⟩
      | true =>
        by_cases hi : n < rows.length
        · have hd2 : dupR rows x = ieq (cmpR rows[n] x) 0 := by
            rw [hdup, ieq_dec, List.getElem?_eq_getElem hi]
          rw [hd2]
          repeat (first | with_reducible refine Rs.seqA ?_ | with_reducible refine Rs.seqRegion ?_ | with_reducible refine Rs.seqSkip ?_ | with_reducible refine Rs.lastRegion ?_ | refine Sq.o rfl rfl (fun _ => rfl) rfl ?_ | refine Sq.off rfl rfl ?_ | refine Sq.nil ?_)
          obtain ⟨b0, o0, c0, cs, el, xa, e1, e2, e3, e4⟩ := kv1.at hi
          cases e1
          (first | rw [ilt_nat] | rw [ilt_oc] | rw [ilt_co] | rw [ilt_cc])
          rw [dec_t hi]
          repeat (first | with_reducible refine Rs.seqA ?_ | with_reducible refine Rs.seqRegion ?_ | with_reducible refine Rs.seqSkip ?_ | with_reducible refine Rs.lastRegion ?_ | refine Sq.o rfl rfl (fun _ => rfl) rfl ?_ | refine Sq.off rfl rfl ?_ | refine Sq.nil ?_)
          refine Sq.a rfl rfl (op_indexAddr rfl rfl hi rfl rfl) rfl ?_
          refine Sq.a rfl rfl (op_load rfl e2 e3) rfl ?_
          repeat (first | with_reducible refine Rs.seqA ?_ | with_reducible refine Rs.seqRegion ?_ | with_reducible refine Rs.seqSkip ?_ | with_reducible refine Rs.lastRegion ?_ | refine Sq.o rfl rfl (fun _ => rfl) rfl ?_ | refine Sq.off rfl rfl ?_ | refine Sq.nil ?_)
          refine Sq.call rfl rfl rfl rfl (Cv.f ((run44 g1.wf e4 kr1 (sr.at hi) sx).mono fun v h2 hv => ?_))
          obtain ⟨rfl, g2⟩ := hv
          refine ⟨_, rfl, ?_⟩
          repeat (first | with_reducible refine Rs.seqA ?_ | with_reducible refine Rs.seqRegion ?_ | with_reducible refine Rs.seqSkip ?_ | with_reducible refine Rs.lastRegion ?_ | refine Sq.o rfl rfl (fun _ => rfl) rfl ?_ | refine Sq.off rfl rfl ?_ | refine Sq.nil ?_)
          exact ⟨_, _, rfl, g1.trans g2⟩
        · have hd2 : dupR rows x = false := by
            rw [hdup, List.getElem?_eq_none (by omega)]
          rw [hd2]
          repeat (first | with_reducible refine Rs.seqA ?_ | with_reducible refine Rs.seqRegion ?_ | with_reducible refine Rs.seqSkip ?_ | with_reducible refine Rs.lastRegion ?_ | refine Sq.o rfl rfl (fun _ => rfl) rfl ?_ | refine Sq.off rfl rfl ?_ | refine Sq.nil ?_)
          (first | rw [ilt_nat] | rw [ilt_oc] | rw [ilt_co] | rw [ilt_cc])
          rw [dec_f hi]
          repeat (first | with_reducible refine Rs.seqA ?_ | with_reducible refine Rs.seqRegion ?_ | with_reducible refine Rs.seqSkip ?_ | with_reducible refine Rs.lastRegion ?_ | refine Sq.o rfl rfl (fun _ => rfl) rfl ?_ | refine Sq.off rfl rfl ?_ | refine Sq.nil ?_)
          exact ⟨_, _, rfl, g1⟩
    · rintro tm' h2 ⟨x20, ts, rfl, g2⟩
      have ko2 := ko.keep g2.keep
      have kr2 := kr.keep g2.keep
      refine Rs.seqCond rfl (fun hd => ?_) (fun hd => ?_)
      · repeat (first | with_reducible refine Rs.seqA ?_ | with_reducible refine Rs.seqRegion ?_ | with_reducible refine Rs.seqSkip ?_ | with_reducible refine Rs.lastRegion ?_ | refine Sq.o rfl rfl (fun _ => rfl) rfl ?_ | refine Sq.off rfl rfl ?_ | refine Sq.nil ?_)
        refine Rs.seqRet ⟨.inr rfl, _, _, _, rfl, rfl, rfl, b, ?_, g2.kx b, .inl rfl⟩
        rw [hins, if_pos hd]; exact ko2
      · rw [hins, if_neg (by simp [hd])]
        repeat (first | with_reducible refine Rs.seqA ?_ | with_reducible refine Rs.seqRegion ?_ | with_reducible refine Rs.seqSkip ?_ | with_reducible refine Rs.lastRegion ?_ | refine Sq.o rfl rfl (fun _ => rfl) rfl ?_ | refine Sq.off rfl rfl ?_ | refine Sq.nil ?_)
        refine Sq.push g2.wf rfl rfl (op_buildSlice (cs := [.slice none 0 0]) rfl rfl rfl rfl rfl rfl rfl) rfl fun h3 g3 q3 s3 => ?_
        have ko3 := ko2.keep g3.keep
        have nilrow : RowV h3 (.slice none 0 0) [] := ⟨none, 0, rfl, rfl, rfl⟩
        obtain ⟨h4, ha, k4, hlt, ⟨vs, hg4, hr4⟩, hkr⟩ := own_append g3.wf ko3 q3 nilrow hl 1
        have kr4 := hkr _ _ (kr2.keep g3.keep)
        obtain ⟨ax, cx', rfl⟩ := kr.slice
        have hvl : vs.length = rows.length := by have := hr4.length; simp at this; exact this
        have hr5 : LR (RowV h4) vs rows := by
          have := hr4.takeR rows.length
          rw [List.take_left' hvl, List.take_left' rfl] at this; exact this
        refine Sq.a rfl rfl (v := .slice (some ⟨h3.size, 0, none⟩) (rows.length + 1) (INEX + 1)) (h' := h4) ha rfl ?_
        repeat (first | with_reducible refine Rs.seqA ?_ | with_reducible refine Rs.seqRegion ?_ | with_reducible refine Rs.seqSkip ?_ | with_reducible refine Rs.lastRegion ?_ | refine Sq.o rfl rfl (fun _ => rfl) rfl ?_ | refine Sq.off rfl rfl ?_ | refine Sq.nil ?_)
        refine Rs.seqDraw (ord := [0, 1, 2, 3, 4, 5, 6, 7]) false k4.wf (by kernel_rfl) (by kernel_rfl) (Dr.mono (Q := fun tm' h' => ∃ ts, tm' = ⟨(.cons 0 (.slice (some ⟨h3.size, 0, none⟩) (rows.length + 1) (INEX + 1)) (.cons 1 (.slice ax x.length cx') (.cons 2 (.bool once) (.cons 6 (.slice none 0 0) (.cons 7 (.int .i64 (Int.ofNat n)) (.cons 20 (x20) (.cons 38 (.bool (once && dupR rows x)) .nil))))))), ts⟩ ∧
          ∃ cs, h'.get h3.size = some (.cells cs 87 1) ∧ cs.length = rows.length + 1 ∧ cs.take n = vs.take n ∧ cs.drop (n + 1) = vs.drop n ∧ KX h3.size h4 h') ?_ ?_)
        · repeat (first | refine Dr.c rfl rfl rfl rfl rfl rfl ?_ | refine Dr.off rfl rfl rfl ?_)
          refine Dr.o rfl rfl rfl (op_add (b := 1) rfl rfl (by omega)) rfl ?_
          by_cases hn1 : n < rows.length
          · refine Dr.o rfl rfl rfl (op_slice rfl rfl (sliceLo (show n + 1 < rows.length + 1 by omega))) rfl ?_
            repeat (first | refine Dr.c rfl rfl rfl rfl rfl rfl ?_ | refine Dr.off rfl rfl rfl ?_)
            refine Dr.o rfl rfl rfl (op_slice rfl rfl (sliceLo (show n < rows.length + 1 by omega))) rfl ?_
            have hmin : min (rows.length + 1 - n) (rows.length + 1 - (n + 1)) = rows.length - n := by omega
            have hnw : ((vs ++ [Value.slice none 0 0]).drop n).take (rows.length - n) = vs.drop n := by
              rw [List.drop_append_of_le_length (by omega), List.take_left' (by simp; omega)]
            have hcp : aCopy EA [69, 69] [.slice (some ⟨h3.size, 0 + (n + 1), none⟩) (rows.length + 1 - (n + 1)) (INEX + 1), .slice (some ⟨h3.size, 0 + n, none⟩) (rows.length + 1 - n) (INEX + 1)] h4 =
                some (.int .i64 ((rows.length - n : Nat) : Int), h4.put h3.size (.cells ((vs ++ [Value.slice none 0 0]).take (n + 1) ++ vs.drop n) 87 1)) := by
              have h2 : EA.und 69 = some (.slice 87) := by kernel_rfl
              have h3' : szOf EA 87 = some 1 := by kernel_rfl
              have hro : Nat.beq 87 RO = false := by kernel_rfl
              have hcc : copyCells 1 (rows.length + 1 - (n + 1)) (.slice (some ⟨h3.size, 0 + n, none⟩) (rows.length + 1 - n) (INEX + 1)) h4 = some (rows.length - n, vs.drop n) := by
                simp only [copyCells, hg4, hmin]
                rw [ldrop_eq, Nat.zero_add, ltake_ok (by simp; omega), Nat.mul_one, hnw]; rfl
              simp only [aCopy, h2, h3', hcc, hg4, Option.bind_some, hro]
              rw [lsets_eq (vs ++ [Value.slice none 0 0]) (0 + (n + 1)) (vs.drop n) (by simp; omega)]
              simp only [Bool.false_eq_true, if_false, Option.map_some, Nat.zero_add]
              have hnil : (vs ++ [Value.slice none 0 0]).drop (n + 1 + (vs.drop n).length) = [] := List.drop_eq_nil_of_le (by simp; omega)
              rw [hnil, List.append_nil]
            have pp := putR k4.wf (k4.wf.lt hg4) (.cells ((vs ++ [Value.slice none 0 0]).take (n + 1) ++ vs.drop n) 87 1)
            refine Dr.act rfl rfl rfl (fun _ => hcp) rfl (Nat.le_refl _) pp.wf (fun e => by cases e) ?_
            refine Dr.nil ⟨_, rfl, _, pp.is, by simp; omega, ?_, ?_, pp.kx⟩
            · rw [List.take_append_of_le_length (by simp; omega), List.take_take, List.take_append_of_le_length (by omega)]
              congr 1; omega
            · rw [List.drop_left' (by simp; omega)]
          · have hn2 : n = rows.length := by omega
            subst hn2
            refine Dr.o rfl rfl rfl (op_slice rfl rfl (sliceEnd (len := rows.length + 1) (by omega))) rfl ?_
            repeat (first | refine Dr.c rfl rfl rfl rfl rfl rfl ?_ | refine Dr.off rfl rfl rfl ?_)
            refine Dr.o rfl rfl rfl (op_slice rfl rfl (sliceLo (show rows.length < rows.length + 1 by omega))) rfl ?_
            have hcp : aCopy EA [69, 69] [.slice (some ⟨h3.size, 0, some 0⟩) 0 INEX, .slice (some ⟨h3.size, 0 + rows.length, none⟩) (rows.length + 1 - rows.length) (INEX + 1)] h4 = some (.int .i64 0, h4) := by
              have h2 : EA.und 69 = some (.slice 87) := by kernel_rfl
              have h3' : szOf EA 87 = some 1 := by kernel_rfl
              have hcc : copyCells 1 0 (.slice (some ⟨h3.size, 0 + rows.length, none⟩) (rows.length + 1 - rows.length) (INEX + 1)) h4 = some (0, []) := by
                simp only [copyCells, hg4, Nat.min_zero, Nat.zero_mul]; rfl
              simp only [aCopy, h2, h3', hcc, Option.bind_some, if_true]
            refine Dr.act rfl rfl rfl (fun _ => hcp) rfl (Nat.le_refl _) k4.wf (fun e => by cases e) ?_
            refine Dr.nil ⟨_, rfl, _, hg4, by simp; omega, ?_, ?_, ⟨Nat.le_refl _, k4.wf, fun _ _ _ e => e⟩⟩
            · rw [List.take_append_of_le_length (by omega)]
            · rw [List.drop_eq_nil_of_le (by simp; omega), List.drop_eq_nil_of_le (by omega)]
        · rintro tm' h5 ⟨ts, rfl, cs, hg5, hcl, ht, hdr, k5⟩
          have hset : lsets cs (0 + n * 1) (vcells (.slice ax x.length cx')) = some (vs.take n ++ .slice ax x.length cx' :: vs.drop n) := by
            rw [lsets_eq cs (0 + n * 1) (vcells (.slice ax x.length cx')) (by simp [vcells]; omega)]
            simp only [vcells, List.length_singleton, Nat.zero_add, Nat.mul_one, ht, hdr]; simp
          repeat (first | with_reducible refine Rs.seqA ?_ | with_reducible refine Rs.seqRegion ?_ | with_reducible refine Rs.seqSkip ?_ | with_reducible refine Rs.lastRegion ?_ | refine Sq.o rfl rfl (fun _ => rfl) rfl ?_ | refine Sq.off rfl rfl ?_ | refine Sq.nil ?_)
          refine Sq.a rfl rfl (op_indexAddr rfl rfl (show n < rows.length + 1 by omega) rfl rfl) rfl ?_
          refine Sq.store k5.wf rfl rfl rfl rfl hg5 rfl hset rfl fun h6 p6 => ?_
          have k6 := k5.trans p6.kx
          have kb : KX b h h4 := ((g2.kx b).trans (g3.kx b)).trans k4
          have kf := kb.fresh w (c := h3.size) (Nat.le_trans g2.size g3.size) k6
          repeat (first | with_reducible refine Rs.seqA ?_ | with_reducible refine Rs.seqRegion ?_ | with_reducible refine Rs.seqSkip ?_ | with_reducible refine Rs.lastRegion ?_ | refine Sq.o rfl rfl (fun _ => rfl) rfl ?_ | refine Sq.off rfl rfl ?_ | refine Sq.nil ?_)
          refine Rs.ret ⟨.inr rfl, _, _, _, rfl, rfl, rfl, h3.size, ?_, kf, .inr (Nat.le_trans g2.size g3.size)⟩
          refine .inr ⟨by congr 1; simp; omega, _, p6.is, ?_⟩
          have hx : ∀ u r, RowV h4 u r → RowV h6 u r := fun _ _ q => q.keepX hg4 k6
          exact ((hr5.takeR n).mono hx).append (.cons (hx _ _ kr4) ((hr5.dropR n).mono hx))
end Go.RA
namespace Go.RA
set_option maxRecDepth 100000

def insAll (once : Bool) (rows : List (List Tm)) : List (List Tm) := rows.foldl (fun acc r => insR acc r once) []
theorem insR_len (rows : List (List Tm)) (x : List Tm) (once : Bool) : (insR rows x once).length ≤ rows.length + 1 := by
  unfold insR
  split
  · omega
  · simp; omega
theorem insFold_len (once : Bool) : ∀ (rows acc : List (List Tm)), (rows.foldl (fun acc r => insR acc r once) acc).length ≤ acc.length + rows.length := by
  intro rows
  induction rows with
  | nil => intro acc; simp
  | cons r rows ih =>
    intro acc
    have h1 := ih (insR acc r once)
    have h2 := insR_len acc r once
    simp only [List.foldl_cons, List.length_cons]; omega
theorem insAll_len (once : Bool) (rows : List (List Tm)) : (insAll once rows).length ≤ rows.length := by
  have := insFold_len once rows []
  simpa [insAll] using this
theorem insR_mem {rows : List (List Tm)} {x r : List Tm} {once : Bool} (h : r ∈ insR rows x once) : r ∈ rows ∨ r = x := by
  unfold insR at h
  split at h
  · exact .inl h
  · rcases List.mem_append.1 h with h | h
    · exact .inl (List.mem_of_mem_take h)
    · rcases List.mem_cons.1 h with h | h
      · exact .inr h
      · exact .inl (List.mem_of_mem_drop h)
theorem insFold_short {once : Bool} : ∀ {rows acc : List (List Tm)}, Short rows → Short acc → Short (rows.foldl (fun acc r => insR acc r once) acc) := by
  intro rows
  induction rows with
  | nil => intro acc _ h; exact h
  | cons r rows ih =>
    intro acc hr ha
    refine ih (fun q hq => hr q (List.mem_cons_of_mem _ hq)) fun q hq => ?_
    rcases insR_mem hq with h | h
    · exact ha q h
    · rw [h]; exact hr r (by simp)
theorem insAll_short {once : Bool} {rows : List (List Tm)} (h : Short rows) : Short (insAll once rows) := insFold_short h fun _ hq => (by cases hq)
theorem insAll_snoc (once : Bool) (rows : List (List Tm)) {i : Nat} (hi : i < rows.length) : insAll once (rows.take (i + 1)) = insR (insAll once (rows.take i)) rows[i] once := by
  unfold insAll
  rw [List.take_succ_eq_append_getElem hi, List.foldl_append]
  rfl
theorem run40 {rows : List (List Tm)} {v : Value} {h : AH} (w : h.WF) (kv : RowsV h v rows) (hl : rows.length + 1 ≤ 1000000) (sr : Short rows) :
    Cl EA 40 [v] h (fun v' h' => ∃ b', OwnV h' b' v' (insAll false rows) ∧ GR h h' ∧ h.size ≤ b') := by
  obtain ⟨a, c, e⟩ := kv.slice
  refine Cl.fn Go.Proofs.Tryz.f40 18 285 [.tmp 2] rfl rfl (by kernel_rfl) rfl rfl (by kernel_rfl) rfl rfl ?_
  repeat (first | with_reducible refine Rs.seqA ?_ | with_reducible refine Rs.seqRegion ?_ | with_reducible refine Rs.seqSkip ?_ | with_reducible refine Rs.lastRegion ?_ | refine Sq.o rfl rfl (fun _ => rfl) rfl ?_ | refine Sq.off rfl rfl ?_ | refine Sq.nil ?_)
  refine Rs.seqLoop (fun k st => ∃ i v1 b1 h1 x8 ts, st = ⟨⟨(.cons 0 (v) (.cons 2 (.slice none 0 0) (.cons 3 (v1) (.cons 4 (.int .i64 (Int.ofNat i)) (.cons 8 (x8) .nil))))), ts⟩, [], h1⟩ ∧ i + k = rows.length ∧ OwnV h1 b1 v1 (insAll false (rows.take i)) ∧ h.size ≤ b1 ∧ GR h h1) (fun st => ∃ v1 b1 h1 x4 x8 ts, st = ⟨⟨(.cons 0 (v) (.cons 2 (.slice none 0 0) (.cons 3 (v1) (.cons 4 (x4) (.cons 8 (x8) .nil))))), ts⟩, [], h1⟩ ∧ OwnV h1 b1 v1 (insAll false rows) ∧ h.size ≤ b1 ∧ GR h h1) ?_ ?_ (rows.length) _ ⟨0, .slice none 0 0, h.size, h, _, _, rfl, by simp, .inl ⟨rfl, rfl⟩, Nat.le_refl _, GR.refl w⟩
  · rintro k st ⟨i, v1, b1, h1, x8, ts, rfl, hk, ho, hb, g1⟩
    have kv1 := kv.keep g1.keep
    subst e
    repeat (first | with_reducible refine Rs.seqA ?_ | with_reducible refine Rs.seqRegion ?_ | with_reducible refine Rs.seqSkip ?_ | with_reducible refine Rs.lastRegion ?_ | refine Sq.o rfl rfl (fun _ => rfl) rfl ?_ | refine Sq.off rfl rfl ?_ | refine Sq.nil ?_)
    (first | rw [ilt_nat] | rw [ilt_oc] | rw [ilt_co] | rw [ilt_cc])
    by_cases hi : i < rows.length
    · rw [dec_t hi]
      refine Rs.seqT rfl ?_
      repeat (first | with_reducible refine Rs.seqA ?_ | with_reducible refine Rs.seqRegion ?_ | with_reducible refine Rs.seqSkip ?_ | with_reducible refine Rs.lastRegion ?_ | refine Sq.o rfl rfl (fun _ => rfl) rfl ?_ | refine Sq.off rfl rfl ?_ | refine Sq.nil ?_)
      obtain ⟨b0, o0, c0, cs, el, xa, e1, e2, e3, e4⟩ := kv1.at hi
      cases e1
      refine Rs.seqBlock ?_
      repeat (first | with_reducible refine Rs.seqA ?_ | with_reducible refine Rs.seqRegion ?_ | with_reducible refine Rs.seqSkip ?_ | with_reducible refine Rs.lastRegion ?_ | refine Sq.o rfl rfl (fun _ => rfl) rfl ?_ | refine Sq.off rfl rfl ?_ | refine Sq.nil ?_)
      refine Sq.a rfl rfl (op_indexAddr rfl rfl hi rfl rfl) rfl ?_
      refine Sq.a rfl rfl (op_load rfl e2 e3) rfl ?_
      have hlen := insAll_len false (rows.take i)
      rw [List.length_take] at hlen
      refine Sq.call rfl rfl rfl rfl (Cv.f ((run101 (once := false) g1.wf ho e4 (by omega) (insAll_short (fun r hr => sr r (List.mem_of_mem_take hr))) (sr.at hi)).mono fun v2 h2 hv => ?_))
      obtain ⟨b2, ho2, k2, hb2⟩ := hv
      refine ⟨_, rfl, ?_⟩
      repeat (first | with_reducible refine Rs.seqA ?_ | with_reducible refine Rs.seqRegion ?_ | with_reducible refine Rs.seqSkip ?_ | with_reducible refine Rs.lastRegion ?_ | refine Sq.o rfl rfl (fun _ => rfl) rfl ?_ | refine Sq.off rfl rfl ?_ | refine Sq.nil ?_)
      refine Rs.lastRegion ?_
      repeat (first | with_reducible refine Rs.seqA ?_ | with_reducible refine Rs.seqRegion ?_ | with_reducible refine Rs.seqSkip ?_ | with_reducible refine Rs.lastRegion ?_ | refine Sq.o rfl rfl (fun _ => rfl) rfl ?_ | refine Sq.off rfl rfl ?_ | refine Sq.nil ?_)
      refine Sq.a rfl rfl (op_add (b := 1) rfl rfl (by omega)) rfl ?_
      repeat (first | with_reducible refine Rs.seqA ?_ | with_reducible refine Rs.seqRegion ?_ | with_reducible refine Rs.seqSkip ?_ | with_reducible refine Rs.lastRegion ?_ | refine Sq.o rfl rfl (fun _ => rfl) rfl ?_ | refine Sq.off rfl rfl ?_ | refine Sq.nil ?_)
      have g2 := k2.gr g1 w hb
      have hb3 : h.size ≤ b2 := by
        rcases hb2 with e | e
        · rw [e]; exact hb
        · exact Nat.le_trans g1.size e
      exact ⟨rows.length - (i + 1), by omega, i + 1, v2, b2, h2, _, _, rfl, by omega, by rw [insAll_snoc _ _ hi]; exact ho2, hb3, g2⟩
    · rw [dec_f hi]
      refine Rs.seqF rfl ?_
      refine Rs.seqExit ?_
      rw [List.take_of_length_le (by omega)] at ho
      exact ⟨rfl, v1, b1, h1, _, _, _, rfl, ho, hb, g1⟩
  · rintro st ⟨v1, b1, h1, x4, x8, ts, rfl, ho, hb, g1⟩
    repeat (first | with_reducible refine Rs.seqA ?_ | with_reducible refine Rs.seqRegion ?_ | with_reducible refine Rs.seqSkip ?_ | with_reducible refine Rs.lastRegion ?_ | refine Sq.o rfl rfl (fun _ => rfl) rfl ?_ | refine Sq.off rfl rfl ?_ | refine Sq.nil ?_)
    exact Rs.ret ⟨.inr rfl, _, _, _, rfl, rfl, rfl, b1, ho, g1, hb⟩
theorem run42 {rows : List (List Tm)} {v : Value} {h : AH} (w : h.WF) (kv : RowsV h v rows) (hl : rows.length + 1 ≤ 1000000) (sr : Short rows) :
    Cl EA 42 [v] h (fun v' h' => ∃ b', OwnV h' b' v' (insAll true rows) ∧ GR h h' ∧ h.size ≤ b') := by
  obtain ⟨a, c, e⟩ := kv.slice
  refine Cl.fn Go.Proofs.Tryz.f42 18 285 [.tmp 2] rfl rfl (by kernel_rfl) rfl rfl (by kernel_rfl) rfl rfl ?_
  repeat (first | with_reducible refine Rs.seqA ?_ | with_reducible refine Rs.seqRegion ?_ | with_reducible refine Rs.seqSkip ?_ | with_reducible refine Rs.lastRegion ?_ | refine Sq.o rfl rfl (fun _ => rfl) rfl ?_ | refine Sq.off rfl rfl ?_ | refine Sq.nil ?_)
  refine Rs.seqLoop (fun k st => ∃ i v1 b1 h1 x8 ts, st = ⟨⟨(.cons 0 (v) (.cons 2 (.slice none 0 0) (.cons 3 (v1) (.cons 4 (.int .i64 (Int.ofNat i)) (.cons 8 (x8) .nil))))), ts⟩, [], h1⟩ ∧ i + k = rows.length ∧ OwnV h1 b1 v1 (insAll true (rows.take i)) ∧ h.size ≤ b1 ∧ GR h h1) (fun st => ∃ v1 b1 h1 x4 x8 ts, st = ⟨⟨(.cons 0 (v) (.cons 2 (.slice none 0 0) (.cons 3 (v1) (.cons 4 (x4) (.cons 8 (x8) .nil))))), ts⟩, [], h1⟩ ∧ OwnV h1 b1 v1 (insAll true rows) ∧ h.size ≤ b1 ∧ GR h h1) ?_ ?_ (rows.length) _ ⟨0, .slice none 0 0, h.size, h, _, _, rfl, by simp, .inl ⟨rfl, rfl⟩, Nat.le_refl _, GR.refl w⟩
  · rintro k st ⟨i, v1, b1, h1, x8, ts, rfl, hk, ho, hb, g1⟩
    have kv1 := kv.keep g1.keep
    subst e
    repeat (first | with_reducible refine Rs.seqA ?_ | with_reducible refine Rs.seqRegion ?_ | with_reducible refine Rs.seqSkip ?_ | with_reducible refine Rs.lastRegion ?_ | refine Sq.o rfl rfl (fun _ => rfl) rfl ?_ | refine Sq.off rfl rfl ?_ | refine Sq.nil ?_)
    (first | rw [ilt_nat] | rw [ilt_oc] | rw [ilt_co] | rw [ilt_cc])
    by_cases hi : i < rows.length
    · rw [dec_t hi]
      refine Rs.seqT rfl ?_
      repeat (first | with_reducible refine Rs.seqA ?_ | with_reducible refine Rs.seqRegion ?_ | with_reducible refine Rs.seqSkip ?_ | with_reducible refine Rs.lastRegion ?_ | refine Sq.o rfl rfl (fun _ => rfl) rfl ?_ | refine Sq.off rfl rfl ?_ | refine Sq.nil ?_)
      obtain ⟨b0, o0, c0, cs, el, xa, e1, e2, e3, e4⟩ := kv1.at hi
      cases e1
      refine Rs.seqBlock ?_
      repeat (first | with_reducible refine Rs.seqA ?_ | with_reducible refine Rs.seqRegion ?_ | with_reducible refine Rs.seqSkip ?_ | with_reducible refine Rs.lastRegion ?_ | refine Sq.o rfl rfl (fun _ => rfl) rfl ?_ | refine Sq.off rfl rfl ?_ | refine Sq.nil ?_)
      refine Sq.a rfl rfl (op_indexAddr rfl rfl hi rfl rfl) rfl ?_
      refine Sq.a rfl rfl (op_load rfl e2 e3) rfl ?_
      have hlen := insAll_len true (rows.take i)
      rw [List.length_take] at hlen
      refine Sq.call rfl rfl rfl rfl (Cv.f ((run101 (once := true) g1.wf ho e4 (by omega) (insAll_short (fun r hr => sr r (List.mem_of_mem_take hr))) (sr.at hi)).mono fun v2 h2 hv => ?_))
      obtain ⟨b2, ho2, k2, hb2⟩ := hv
      refine ⟨_, rfl, ?_⟩
      repeat (first | with_reducible refine Rs.seqA ?_ | with_reducible refine Rs.seqRegion ?_ | with_reducible refine Rs.seqSkip ?_ | with_reducible refine Rs.lastRegion ?_ | refine Sq.o rfl rfl (fun _ => rfl) rfl ?_ | refine Sq.off rfl rfl ?_ | refine Sq.nil ?_)
      refine Rs.lastRegion ?_
      repeat (first | with_reducible refine Rs.seqA ?_ | with_reducible refine Rs.seqRegion ?_ | with_reducible refine Rs.seqSkip ?_ | with_reducible refine Rs.lastRegion ?_ | refine Sq.o rfl rfl (fun _ => rfl) rfl ?_ | refine Sq.off rfl rfl ?_ | refine Sq.nil ?_)
      refine Sq.a rfl rfl (op_add (b := 1) rfl rfl (by omega)) rfl ?_
      repeat (first | with_reducible refine Rs.seqA ?_ | with_reducible refine Rs.seqRegion ?_ | with_reducible refine Rs.seqSkip ?_ | with_reducible refine Rs.lastRegion ?_ | refine Sq.o rfl rfl (fun _ => rfl) rfl ?_ | refine Sq.off rfl rfl ?_ | refine Sq.nil ?_)
      have g2 := k2.gr g1 w hb
      have hb3 : h.size ≤ b2 := by
        rcases hb2 with e | e
        · rw [e]; exact hb
        · exact Nat.le_trans g1.size e
      exact ⟨rows.length - (i + 1), by omega, i + 1, v2, b2, h2, _, _, rfl, by omega, by rw [insAll_snoc _ _ hi]; exact ho2, hb3, g2⟩
    · rw [dec_f hi]
      refine Rs.seqF rfl ?_
      refine Rs.seqExit ?_
      rw [List.take_of_length_le (by omega)] at ho
      exact ⟨rfl, v1, b1, h1, _, _, _, rfl, ho, hb, g1⟩
  · rintro st ⟨v1, b1, h1, x4, x8, ts, rfl, ho, hb, g1⟩
    repeat (first | with_reducible refine Rs.seqA ?_ | with_reducible refine Rs.seqRegion ?_ | with_reducible refine Rs.seqSkip ?_ | with_reducible refine Rs.lastRegion ?_ | refine Sq.o rfl rfl (fun _ => rfl) rfl ?_ | refine Sq.off rfl rfl ?_ | refine Sq.nil ?_)
    exact Rs.ret ⟨.inr rfl, _, _, _, rfl, rfl, rfl, b1, ho, g1, hb⟩
end Go.RA
namespace Go.RA
set_option maxRecDepth 100000

/-! ### Rows that are moved about -/
abbrev Pr := Value × List Tm
def cellsOf (n : Nat) (F : Nat → Value) : List Value := (List.range n).map F
theorem cellsOf_len (n : Nat) (F : Nat → Value) : (cellsOf n F).length = n := by simp [cellsOf]
theorem cellsOf_get {n : Nat} (F : Nat → Value) {k : Nat} (hk : k < n) : (cellsOf n F)[k]? = some (F k) := by simp [cellsOf, hk]
theorem cellsOf_ext {n : Nat} {xs : List Value} {F : Nat → Value} (hl : xs.length = n) (h : ∀ k, k < n → xs[k]? = some (F k)) : xs = cellsOf n F := by
  apply List.ext_getElem?
  intro k
  by_cases hk : k < n
  · rw [h k hk, cellsOf_get F hk]
  · rw [List.getElem?_eq_none (by omega), List.getElem?_eq_none (by rw [cellsOf_len]; omega)]
theorem cellsOf_set {n k : Nat} (F : Nat → Value) (x : Value) (hk : k < n) : lsets (cellsOf n F) (0 + k * 1) [x] = some (cellsOf n fun i => if i = k then x else F i) := by
  have h1 : 0 + k * 1 = k := by omega
  rw [h1]
  cases hs : lsets (cellsOf n F) k [x] with
  | none =>
    rw [lsets_eq (cellsOf n F) k [x] (by rw [cellsOf_len]; simp; omega)] at hs
    cases hs
  | some ys =>
    obtain ⟨h2, _, h3⟩ := lsets_some hs
    congr 1
    refine cellsOf_ext (by rw [h2, cellsOf_len]) fun j hj => ?_
    rw [h3]
    by_cases e : j = k
    · subst e; simp
    · rw [if_neg (by simp; omega), cellsOf_get F hj, if_neg e]
structure DV (h : AH) (b n : Nat) (f : Nat → Pr) : Prop where
  get : h.get b = some (.cells (cellsOf n fun i => (f i).1) 87 1)
  row : ∀ i, i < n → RowV h (f i).1 (f i).2 ∧ (f i).2.length < 1000000
def dv (b n : Nat) : Value := .slice (some ⟨b, 0, none⟩) n (INEX + 1)
theorem DV.part {h : AH} {b n : Nat} {f : Nat → Pr} (_ : DV h b n f) {k : Nat} (hk : k < n) : aPart EA 87 (cellsOf n fun i => (f i).1) (0 + k * 1) = some (f k).1 := by
  show lget _ _ = _
  rw [lget_eq, Nat.zero_add, Nat.mul_one]
  exact cellsOf_get _ hk
theorem DV.keepX {h h' : AH} {b n : Nat} {f : Nat → Pr} (d : DV h b n f) (k : Keeps h h') : DV h' b n f :=
  ⟨k _ _ d.get, fun i hi => ⟨(d.row i hi).1.keep k, (d.row i hi).2⟩⟩
def upd (f : Nat → Pr) (k : Nat) (x : Pr) : Nat → Pr := fun i => if i = k then x else f i
def swp (f : Nat → Pr) (x y : Nat) : Nat → Pr := fun i => if i = y then f x else if i = x then f y else f i
theorem veq_row {h : AH} {v : Value} {r : List Tm} (k : RowV h v r) : veq v v = true := by
  obtain ⟨a, c, e⟩ := k.slice
  rw [e]; exact veq_slice _ _ _
theorem row_store {h : AH} {v : Value} {r : List Tm} (k : RowV h v r) : (!(Nat.beq 87 RO) && (vcells v).all Value.isCell && some (vcells v).length == szOf EA 87) = true ∧ vcells v = [v] := by
  obtain ⟨a, c, e⟩ := k.slice
  rw [e]
  exact ⟨by kernel_rfl, rfl⟩
/-- Two values laid in each other's place. -/
theorem DV.two {h h1 h2 : AH} {b n x y : Nat} {f : Nat → Pr} (d : DV h b n f) (hx : x < n) (hy : y < n)
    (p1 : PutR b (.cells (cellsOf n fun i => if i = x then (f y).1 else (f i).1) 87 1) h h1) (p2 : PutR b (.cells (cellsOf n fun i => if i = y then (f x).1 else if i = x then (f y).1 else (f i).1) 87 1) h1 h2) : DV h2 b n (swp f x y) ∧ KX b h h2 := by
  have k : KX b h h2 := p1.kx.trans p2.kx
  refine ⟨⟨?_, fun i hi => ?_⟩, k⟩
  · rw [p2.is]
    congr 3
    funext i
    unfold swp
    split
    · rfl
    · split <;> rfl
  · unfold swp
    split
    · exact ⟨(d.row x hx).1.keepX d.get k, (d.row x hx).2⟩
    · split
      · exact ⟨(d.row y hy).1.keepX d.get k, (d.row y hy).2⟩
      · exact ⟨(d.row i hi).1.keepX d.get k, (d.row i hi).2⟩
theorem DV.load {h : AH} {b n : Nat} {f : Nat → Pr} (d : DV h b n f) {k : Nat} (hk : k < n) {cx : Cx} {tm : Fr} {x : Operand} (hx : opnd cx tm x = some (ptrTo b (0 + k * 1))) : aOp EA cx (.load 87 x) tm h = some ((f k).1, h) :=
  op_load hx d.get (d.part hk)
theorem Dr.store {cx : Cx} {ops : List Oper} {j : Nat} {r : List Nat} {o : Oper} {tm tm' : Fr} {h : AH} {t : TypeId} {x y : Operand} {b off : Nat} {cs cs' : List Value} {e z : Nat} {v : Value} {Q : Fr → AH → Prop} (w : h.WF) (hi : lget ops j = some o) (hop : o.op = .store t x y) (hw : wantedA cx ops o.guard tm = some true)
    (hx : opnd cx tm x = some (.pointer (some ⟨b, off, none⟩))) (hy : opnd cx tm y = some v) (hg : h.get b = some (.cells cs e z)) (hc : (!(Nat.beq e RO) && (vcells v).all Value.isCell && some (vcells v).length == szOf EA t) = true) (hs : lsets cs off (vcells v) = some cs')
    (hp : putD cx tm o.dst undef = some tm') (k : ∀ h', PutR b (.cells cs' e z) h h' → Dr EA cx false ops r tm' h' Q) : Dr EA cx false ops (j :: r) tm h Q :=
  have p := putR w (w.lt hg) (.cells cs' e z)
  Dr.act (h' := h.put b (.cells cs' e z)) hi hw (by rw [hop]; rfl) (fun _ => by rw [hop, aAny_op rfl]; exact op_store hx hy hg hc hs) hp (Nat.le_refl _) p.wf (fun e => by cases e) (k _ p)

def swR (f : Nat → Pr) (a b k : Nat) : Nat → Pr := fun i => if a ≤ i ∧ i < a + k then f (b + (i - a)) else if b ≤ i ∧ i < b + k then f (a + (i - b)) else f i
theorem swR_step (f : Nat → Pr) (a b k : Nat) (hd : a + k < b) : swp (swR f a b k) (a + k) (b + k) = swR f a b (k + 1) := by
  funext i
  unfold swp
  by_cases h1 : i = b + k
  · subst h1
    rw [if_pos rfl]
    unfold swR
    rw [if_neg (by omega), if_neg (by omega), if_neg (by omega), if_pos (by omega)]
    congr 1; omega
  · rw [if_neg h1]
    by_cases h2 : i = a + k
    · subst h2
      rw [if_pos rfl]
      unfold swR
      rw [if_neg (by omega), if_neg (by omega), if_pos (by omega)]
      congr 1; omega
    · rw [if_neg h2]
      unfold swR
      by_cases h3 : a ≤ i ∧ i < a + k
      · rw [if_pos h3, if_pos (show a ≤ i ∧ i < a + (k + 1) by omega)]
      · rw [if_neg h3, if_neg (show ¬ (a ≤ i ∧ i < a + (k + 1)) by omega)]
        by_cases h4 : b ≤ i ∧ i < b + k
        · rw [if_pos h4, if_pos (show b ≤ i ∧ i < b + (k + 1) by omega)]
        · rw [if_neg h4, if_neg (show ¬ (b ≤ i ∧ i < b + (k + 1)) by omega)]
theorem run367 {h : AH} {bk N a b n : Nat} {f : Nat → Pr} {cv : Value} (w : h.WF) (d : DV h bk N f) (hN : N < 1000000) (hab : a + n ≤ b) (hb : b + n ≤ N) :
    Cl EA 367 [dv bk N, .int .i64 (Int.ofNat a), .int .i64 (Int.ofNat b), .int .i64 (Int.ofNat n), cv] h (fun _ h' => DV h' bk N (swR f a b n) ∧ KX bk h h') := by
  refine Cl.fn Go.Proofs.Tryz.f367 38 9231 [] rfl rfl (by kernel_rfl) rfl rfl (by kernel_rfl) rfl rfl ?_
  repeat (first | with_reducible refine Rs.seqA ?_ | with_reducible refine Rs.seqRegion ?_ | with_reducible refine Rs.seqSkip ?_ | with_reducible refine Rs.lastRegion ?_ | refine Sq.o rfl rfl (fun _ => rfl) rfl ?_ | refine Sq.off rfl rfl ?_ | refine Sq.nil ?_)
  refine Rs.lastLoop (fun k st => ∃ k1 h1 x13 ts, st = ⟨⟨(.cons 0 (dv bk N) (.cons 1 (.int .i64 (Int.ofNat a)) (.cons 2 (.int .i64 (Int.ofNat b)) (.cons 3 (.int .i64 (Int.ofNat n)) (.cons 10 (.int .i64 (Int.ofNat k1)) (.cons 13 (x13) .nil)))))), ts⟩, [], h1⟩ ∧ k1 + k = n ∧ DV h1 bk N (swR f a b k1) ∧ KX bk h h1) (fun st => ∃ h1 x1 x2 x3 x10 x13 ts, st = ⟨⟨(.cons 0 (dv bk N) (.cons 1 (x1) (.cons 2 (x2) (.cons 3 (x3) (.cons 10 (x10) (.cons 13 (x13) .nil)))))), ts⟩, [], h1⟩ ∧ DV h1 bk N (swR f a b n) ∧ KX bk h h1) ?_ ?_ (n) _ ⟨0, _, _, _, rfl, by simp, by rw [show swR f a b 0 = f by funext i; unfold swR; rw [if_neg (by omega), if_neg (by omega)]]; exact d, ⟨Nat.le_refl _, w, fun _ _ _ e => e⟩⟩
  · rintro k st ⟨k1, h1, x13, ts, rfl, hk, d1, x1⟩
    repeat (first | with_reducible refine Rs.seqA ?_ | with_reducible refine Rs.seqRegion ?_ | with_reducible refine Rs.seqSkip ?_ | with_reducible refine Rs.lastRegion ?_ | refine Sq.o rfl rfl (fun _ => rfl) rfl ?_ | refine Sq.off rfl rfl ?_ | refine Sq.nil ?_)
    (first | rw [ilt_nat] | rw [ilt_oc] | rw [ilt_co] | rw [ilt_cc])
    by_cases hi : k1 < n
    · rw [dec_t hi]
      refine Rs.seqT rfl ?_
      repeat (first | with_reducible refine Rs.seqA ?_ | with_reducible refine Rs.seqRegion ?_ | with_reducible refine Rs.seqSkip ?_ | with_reducible refine Rs.lastRegion ?_ | refine Sq.o rfl rfl (fun _ => rfl) rfl ?_ | refine Sq.off rfl rfl ?_ | refine Sq.nil ?_)
      refine Rs.seqBlock ?_
      have h1 := d1.row (a + k1) (by omega)
      have h2 := d1.row (b + k1) (by omega)
      refine Rs.lastDraw (ord := [0, 1, 2, 3, 4, 5, 6, 7, 8, 9, 10, 11, 12, 13, 14, 15, 16, 17, 18, 19, 20, 21, 22, 23]) false x1.wf (by kernel_rfl) (by kernel_rfl) ?_
      repeat (first | refine Dr.c rfl rfl rfl rfl rfl rfl ?_ | refine Dr.off rfl rfl rfl ?_)
      refine Dr.o rfl rfl rfl (op_add rfl rfl (by omega)) rfl ?_
      repeat (first | refine Dr.c rfl rfl rfl rfl rfl rfl ?_ | refine Dr.off rfl rfl rfl ?_)
      refine Dr.o rfl rfl rfl (op_add rfl rfl (by omega)) rfl ?_
      repeat (first | refine Dr.c rfl rfl rfl rfl rfl rfl ?_ | refine Dr.off rfl rfl rfl ?_)
      refine Dr.o rfl rfl rfl (op_add rfl rfl (by omega)) rfl ?_
      refine Dr.o rfl rfl rfl (op_indexAddr rfl rfl (show b + k1 < N by omega) rfl rfl) rfl ?_
      refine Dr.r rfl rfl rfl (d1.load (show b + k1 < N by omega) rfl) rfl (veq_row h2.1) ?_
      repeat (first | refine Dr.c rfl rfl rfl rfl rfl rfl ?_ | refine Dr.off rfl rfl rfl ?_)
      refine Dr.o rfl rfl rfl (op_add rfl rfl (by omega)) rfl ?_
      refine Dr.o rfl rfl rfl (op_indexAddr rfl rfl (show a + k1 < N by omega) rfl rfl) rfl ?_
      refine Dr.r rfl rfl rfl (d1.load (show a + k1 < N by omega) rfl) rfl (veq_row h1.1) ?_
      refine Dr.o rfl rfl rfl (op_indexAddr rfl rfl (show a + k1 < N by omega) rfl rfl) rfl ?_
      refine Dr.store x1.wf rfl rfl rfl rfl rfl d1.get (row_store h2.1).1 (by rw [(row_store h2.1).2]; exact cellsOf_set _ _ (show a + k1 < N by omega)) rfl fun h3 p3 => ?_
      refine Dr.o rfl rfl rfl (op_indexAddr rfl rfl (show b + k1 < N by omega) rfl rfl) rfl ?_
      refine Dr.store p3.wf rfl rfl rfl rfl rfl p3.is (row_store h1.1).1 (by rw [(row_store h1.1).2]; exact cellsOf_set _ _ (show b + k1 < N by omega)) rfl fun h4 p4 => ?_
      obtain ⟨d4, k4⟩ := d1.two (show a + k1 < N by omega) (show b + k1 < N by omega) p3 p4
      refine Dr.nil ?_
      refine Rs.lastRegion ?_
      repeat (first | with_reducible refine Rs.seqA ?_ | with_reducible refine Rs.seqRegion ?_ | with_reducible refine Rs.seqSkip ?_ | with_reducible refine Rs.lastRegion ?_ | refine Sq.o rfl rfl (fun _ => rfl) rfl ?_ | refine Sq.off rfl rfl ?_ | refine Sq.nil ?_)
      refine Sq.a rfl rfl (op_add (b := 1) rfl rfl (by omega)) rfl ?_
      repeat (first | with_reducible refine Rs.seqA ?_ | with_reducible refine Rs.seqRegion ?_ | with_reducible refine Rs.seqSkip ?_ | with_reducible refine Rs.lastRegion ?_ | refine Sq.o rfl rfl (fun _ => rfl) rfl ?_ | refine Sq.off rfl rfl ?_ | refine Sq.nil ?_)
      rw [swR_step f a b k1 (by omega)] at d4
      exact ⟨n - (k1 + 1), by omega, k1 + 1, h4, _, _, rfl, by omega, d4, x1.trans k4⟩
    · rw [dec_f hi]
      refine Rs.seqF rfl ?_
      refine Rs.seqExit ?_
      have e : k1 = n := by omega
      subst e
      exact ⟨rfl, h1, _, _, _, _, _, _, rfl, d1, x1⟩
  · rintro st ⟨h1, x1, x2, x3, x10, x13, ts, rfl, d1, x1⟩
    exact ⟨.inl rfl, _, _, _, rfl, rfl, rfl, d1, x1⟩
end Go.RA
namespace Go.RA
set_option maxRecDepth 100000

def Rot (f : Nat → Pr) (a m b : Nat) : Nat → Pr := fun i => if a ≤ i ∧ i < a + (b - m) then f (i + (m - a)) else if a + (b - m) ≤ i ∧ i < b then f (i - (b - m)) else f i
theorem ite_t {α : Type} {p : Prop} [Decidable p] (h : p) (x y : α) : (if p then x else y) = x := if_pos h
theorem ite_f {α : Type} {p : Prop} [Decidable p] (h : ¬ p) (x y : α) : (if p then x else y) = y := if_neg h
theorem rot_end (f : Nat → Pr) (m i : Nat) (hi : i ≤ m) : swR f (m - i) m i = Rot f (m - i) m (m + i) := by
  funext k
  unfold swR Rot
  by_cases h1 : m - i ≤ k ∧ k < m - i + i
  · rw [if_pos h1, if_pos (show m - i ≤ k ∧ k < m - i + (m + i - m) by omega)]
    congr 1 <;> omega
  · rw [if_neg h1, if_neg (show ¬ (m - i ≤ k ∧ k < m - i + (m + i - m)) by omega)]
    by_cases h2 : m ≤ k ∧ k < m + i
    · rw [if_pos h2, if_pos (show m - i + (m + i - m) ≤ k ∧ k < m + i by omega)]
      congr 1 <;> omega
    · rw [if_neg h2, if_neg (show ¬ (m - i + (m + i - m) ≤ k ∧ k < m + i) by omega)]
theorem swR_in1 (f : Nat → Pr) (a b n k : Nat) (h : a ≤ k ∧ k < a + n) : swR f a b n k = f (b + (k - a)) := by unfold swR; rw [if_pos h]
theorem swR_in2 (f : Nat → Pr) (a b n k : Nat) (h1 : ¬ (a ≤ k ∧ k < a + n)) (h : b ≤ k ∧ k < b + n) : swR f a b n k = f (a + (k - b)) := by unfold swR; rw [if_neg h1, if_pos h]
theorem swR_out (f : Nat → Pr) (a b n k : Nat) (h1 : ¬ (a ≤ k ∧ k < a + n)) (h : ¬ (b ≤ k ∧ k < b + n)) : swR f a b n k = f k := by unfold swR; rw [if_neg h1, if_neg h]
theorem Rot_in1 (f : Nat → Pr) (a m b k : Nat) (h : a ≤ k ∧ k < a + (b - m)) : Rot f a m b k = f (k + (m - a)) := by unfold Rot; rw [if_pos h]
theorem Rot_in2 (f : Nat → Pr) (a m b k : Nat) (h1 : ¬ (a ≤ k ∧ k < a + (b - m))) (h : a + (b - m) ≤ k ∧ k < b) : Rot f a m b k = f (k - (b - m)) := by unfold Rot; rw [if_neg h1, if_pos h]
theorem Rot_out (f : Nat → Pr) (a m b k : Nat) (h1 : ¬ (a ≤ k ∧ k < a + (b - m))) (h : ¬ (a + (b - m) ≤ k ∧ k < b)) : Rot f a m b k = f k := by unfold Rot; rw [if_neg h1, if_neg h]
/-- The left part is the longer one. -/
theorem rot_left (f : Nat → Pr) (m i j : Nat) (hi : i ≤ m) (hij : j < i) : Rot (swR f (m - i) m j) (m - (i - j)) m (m + j) = Rot f (m - i) m (m + j) := by
  funext k
  by_cases c1 : k < m - i
  · rw [Rot_out _ _ _ _ _ (by omega) (by omega), Rot_out _ _ _ _ _ (by omega) (by omega), swR_out _ _ _ _ _ (by omega) (by omega)]
  by_cases c2 : k < m - i + j
  · rw [Rot_out _ _ _ _ _ (by omega) (by omega), Rot_in1 _ _ _ _ _ (by omega), swR_in1 _ _ _ _ _ (by omega)]
    congr 1 <;> omega
  by_cases c3 : k < m - (i - j) + j
  · rw [Rot_in1 _ _ _ _ _ (by omega), Rot_in2 _ _ _ _ _ (by omega) (by omega)]
    rw [swR_in2 _ _ _ _ _ (by omega) (by omega)]
    congr 1 <;> omega
  by_cases c5 : k < m + j
  · rw [Rot_in2 _ _ _ _ _ (by omega) (by omega), Rot_in2 _ _ _ _ _ (by omega) (by omega), swR_out _ _ _ _ _ (by omega) (by omega)]
  · rw [Rot_out _ _ _ _ _ (by omega) (by omega), Rot_out _ _ _ _ _ (by omega) (by omega), swR_out _ _ _ _ _ (by omega) (by omega)]
/-- The right part is the longer one. -/
theorem rot_right (f : Nat → Pr) (m i j : Nat) (hi : i ≤ m) (hij : i < j) : Rot (swR f (m - i) (m + j - i) i) (m - i) m (m + (j - i)) = Rot f (m - i) m (m + j) := by
  funext k
  by_cases c1 : k < m - i
  · rw [Rot_out _ _ _ _ _ (by omega) (by omega), Rot_out _ _ _ _ _ (by omega) (by omega), swR_out _ _ _ _ _ (by omega) (by omega)]
  by_cases c2 : k < m - i + (j - i)
  · rw [Rot_in1 _ _ _ _ _ (by omega), Rot_in1 _ _ _ _ _ (by omega), swR_out _ _ _ _ _ (by omega) (by omega)]
  by_cases c3 : k < m + (j - i)
  · rw [Rot_in2 _ _ _ _ _ (by omega) (by omega), Rot_in1 _ _ _ _ _ (by omega), swR_in1 _ _ _ _ _ (by omega)]
    congr 1 <;> omega
  by_cases c4 : k < m + j
  · rw [Rot_out _ _ _ _ _ (by omega) (by omega), Rot_in2 _ _ _ _ _ (by omega) (by omega), swR_in2 _ _ _ _ _ (by omega) (by omega)]
    congr 1 <;> omega
  · rw [Rot_out _ _ _ _ _ (by omega) (by omega), Rot_out _ _ _ _ _ (by omega) (by omega), swR_out _ _ _ _ _ (by omega) (by omega)]
theorem KX.refl {b : Nat} {h : AH} (w : h.WF) : KX b h h := ⟨Nat.le_refl _, w, fun _ _ _ e => e⟩
theorem run323 {h : AH} {bk N a m b : Nat} {f : Nat → Pr} {cv : Value} (w : h.WF) (d : DV h bk N f) (hN : N < 1000000) (ham : a < m) (hmb : m < b) (hb : b ≤ N) :
    Cl EA 323 [dv bk N, .int .i64 (Int.ofNat a), .int .i64 (Int.ofNat m), .int .i64 (Int.ofNat b), cv] h (fun _ h' => DV h' bk N (Rot f a m b) ∧ KX bk h h') := by
  refine Cl.fn Go.Proofs.Tryz.f323 58 9440287 [] rfl rfl (by kernel_rfl) rfl rfl (by kernel_rfl) rfl rfl ?_
  repeat (first | with_reducible refine Rs.seqA ?_ | with_reducible refine Rs.seqRegion ?_ | with_reducible refine Rs.seqSkip ?_ | with_reducible refine Rs.lastRegion ?_ | refine Sq.o rfl rfl (fun _ => rfl) rfl ?_ | refine Sq.off rfl rfl ?_ | refine Sq.nil ?_)
  refine Sq.a rfl rfl (op_sub rfl rfl (by omega) (by omega)) rfl ?_
  repeat (first | with_reducible refine Rs.seqA ?_ | with_reducible refine Rs.seqRegion ?_ | with_reducible refine Rs.seqSkip ?_ | with_reducible refine Rs.lastRegion ?_ | refine Sq.o rfl rfl (fun _ => rfl) rfl ?_ | refine Sq.off rfl rfl ?_ | refine Sq.nil ?_)
  refine Sq.a rfl rfl (op_sub rfl rfl (by omega) (by omega)) rfl ?_
  repeat (first | with_reducible refine Rs.seqA ?_ | with_reducible refine Rs.seqRegion ?_ | with_reducible refine Rs.seqSkip ?_ | with_reducible refine Rs.lastRegion ?_ | refine Sq.o rfl rfl (fun _ => rfl) rfl ?_ | refine Sq.off rfl rfl ?_ | refine Sq.nil ?_)
  refine Rs.seqLoop (fun k st => ∃ i j f1 h1 x20 x23 ts, st = ⟨⟨(.cons 0 (dv bk N) (.cons 1 (.int .i64 (Int.ofNat a)) (.cons 2 (.int .i64 (Int.ofNat m)) (.cons 3 (.int .i64 (Int.ofNat b)) (.cons 4 (cv) (.cons 10 (.int .i64 (Int.ofNat i)) (.cons 11 (.int .i64 (Int.ofNat j)) (.cons 20 (x20) (.cons 23 (x23) .nil))))))))), ts⟩, [], h1⟩ ∧ (i + j = k) ∧ (1 ≤ i ∧ i ≤ m) ∧ (1 ≤ j ∧ m + j ≤ N) ∧ (Rot f1 (m - i) m (m + j) = Rot f a m b) ∧ (DV h1 bk N f1) ∧ (KX bk h h1)) (fun st => ∃ i f1 h1 x20 x23 ts, st = ⟨⟨(.cons 0 (dv bk N) (.cons 1 (.int .i64 (Int.ofNat a)) (.cons 2 (.int .i64 (Int.ofNat m)) (.cons 3 (.int .i64 (Int.ofNat b)) (.cons 4 (cv) (.cons 10 (.int .i64 (Int.ofNat i)) (.cons 11 (.int .i64 (Int.ofNat i)) (.cons 20 (x20) (.cons 23 (x23) .nil))))))))), ts⟩, [], h1⟩ ∧ (1 ≤ i ∧ i ≤ m) ∧ (m + i ≤ N) ∧ (Rot f1 (m - i) m (m + i) = Rot f a m b) ∧ (DV h1 bk N f1) ∧ (KX bk h h1)) ?_ ?_ (m - a + (b - m)) _ ⟨m - a, b - m, f, _, _, _, _, rfl, rfl, by omega, by omega, by rw [show m - (m - a) = a by omega, show m + (b - m) = b by omega], d, KX.refl w⟩
  · rintro k st ⟨i, j, f1, h1, x20, x23, ts, rfl, hk, hi, hj, hf, d1, x1⟩
    repeat (first | with_reducible refine Rs.seqA ?_ | with_reducible refine Rs.seqRegion ?_ | with_reducible refine Rs.seqSkip ?_ | with_reducible refine Rs.lastRegion ?_ | refine Sq.o rfl rfl (fun _ => rfl) rfl ?_ | refine Sq.off rfl rfl ?_ | refine Sq.nil ?_)
    by_cases hij : i = j
    · subst hij
      have hc : (!ieq (Int.ofNat i) (Int.ofNat i)) = false := by rw [ieq_nat]; simp
      refine Rs.seqCond rfl (fun e => absurd (e.symm.trans hc) (by simp)) (fun _ => ?_)
      refine Rs.seqExit ?_
      exact ⟨rfl, i, f1, h1, _, _, _, rfl, hi, hj.2, hf, d1, x1⟩
    · have hc : (!ieq (Int.ofNat i) (Int.ofNat j)) = true := by rw [ieq_nat]; simp [hij]
      refine Rs.seqCond rfl (fun _ => ?_) (fun e => absurd (e.symm.trans hc) (by simp))
      repeat (first | with_reducible refine Rs.seqA ?_ | with_reducible refine Rs.seqRegion ?_ | with_reducible refine Rs.seqSkip ?_ | with_reducible refine Rs.lastRegion ?_ | refine Sq.o rfl rfl (fun _ => rfl) rfl ?_ | refine Sq.off rfl rfl ?_ | refine Sq.nil ?_)
      refine Rs.block ?_
      repeat (first | with_reducible refine Rs.seqA ?_ | with_reducible refine Rs.seqRegion ?_ | with_reducible refine Rs.seqSkip ?_ | with_reducible refine Rs.lastRegion ?_ | refine Sq.o rfl rfl (fun _ => rfl) rfl ?_ | refine Sq.off rfl rfl ?_ | refine Sq.nil ?_)
      by_cases hlt : j < i
      · have hc : ilt (Int.ofNat j) (Int.ofNat i) = true := by rw [ilt_nat, dec_t hlt]
        refine Rs.cond rfl (fun _ => ?_) (fun e => absurd (e.symm.trans hc) (by simp))
        repeat (first | with_reducible refine Rs.seqA ?_ | with_reducible refine Rs.seqRegion ?_ | with_reducible refine Rs.seqSkip ?_ | with_reducible refine Rs.lastRegion ?_ | refine Sq.o rfl rfl (fun _ => rfl) rfl ?_ | refine Sq.off rfl rfl ?_ | refine Sq.nil ?_)
        refine Sq.a rfl rfl (op_sub rfl rfl (by omega) (by omega)) rfl ?_
        repeat (first | with_reducible refine Rs.seqA ?_ | with_reducible refine Rs.seqRegion ?_ | with_reducible refine Rs.seqSkip ?_ | with_reducible refine Rs.lastRegion ?_ | refine Sq.o rfl rfl (fun _ => rfl) rfl ?_ | refine Sq.off rfl rfl ?_ | refine Sq.nil ?_)
        refine Sq.call rfl rfl rfl rfl (Cv.f ((run367 (f := f1) x1.wf d1 hN (show m - i + j ≤ m by omega) (show m + j ≤ N by omega)).mono fun v h2 hv => ?_))
        obtain ⟨d2, x2⟩ := hv
        refine ⟨_, rfl, ?_⟩
        repeat (first | with_reducible refine Rs.seqA ?_ | with_reducible refine Rs.seqRegion ?_ | with_reducible refine Rs.seqSkip ?_ | with_reducible refine Rs.lastRegion ?_ | refine Sq.o rfl rfl (fun _ => rfl) rfl ?_ | refine Sq.off rfl rfl ?_ | refine Sq.nil ?_)
        refine Sq.a rfl rfl (op_sub rfl rfl (by omega) (by omega)) rfl ?_
        repeat (first | with_reducible refine Rs.seqA ?_ | with_reducible refine Rs.seqRegion ?_ | with_reducible refine Rs.seqSkip ?_ | with_reducible refine Rs.lastRegion ?_ | refine Sq.o rfl rfl (fun _ => rfl) rfl ?_ | refine Sq.off rfl rfl ?_ | refine Sq.nil ?_)
        exact ⟨(i - j) + j, by omega, i - j, j, _, h2, _, _, _, rfl, rfl, by omega, hj, by rw [rot_left f1 m i j hi.2 hlt]; exact hf, d2, x1.trans x2⟩
      · have hc : ilt (Int.ofNat j) (Int.ofNat i) = false := by rw [ilt_nat, dec_f hlt]
        refine Rs.cond rfl (fun e => absurd (e.symm.trans hc) (by simp)) (fun _ => ?_)
        repeat (first | with_reducible refine Rs.seqA ?_ | with_reducible refine Rs.seqRegion ?_ | with_reducible refine Rs.seqSkip ?_ | with_reducible refine Rs.lastRegion ?_ | refine Sq.o rfl rfl (fun _ => rfl) rfl ?_ | refine Sq.off rfl rfl ?_ | refine Sq.nil ?_)
        refine Sq.a rfl rfl (op_sub rfl rfl (by omega) (by omega)) rfl ?_
        repeat (first | with_reducible refine Rs.seqA ?_ | with_reducible refine Rs.seqRegion ?_ | with_reducible refine Rs.seqSkip ?_ | with_reducible refine Rs.lastRegion ?_ | refine Sq.o rfl rfl (fun _ => rfl) rfl ?_ | refine Sq.off rfl rfl ?_ | refine Sq.nil ?_)
        refine Sq.a rfl rfl (op_add rfl rfl (by omega)) rfl ?_
        repeat (first | with_reducible refine Rs.seqA ?_ | with_reducible refine Rs.seqRegion ?_ | with_reducible refine Rs.seqSkip ?_ | with_reducible refine Rs.lastRegion ?_ | refine Sq.o rfl rfl (fun _ => rfl) rfl ?_ | refine Sq.off rfl rfl ?_ | refine Sq.nil ?_)
        refine Sq.a rfl rfl (op_sub rfl rfl (by omega) (by omega)) rfl ?_
        repeat (first | with_reducible refine Rs.seqA ?_ | with_reducible refine Rs.seqRegion ?_ | with_reducible refine Rs.seqSkip ?_ | with_reducible refine Rs.lastRegion ?_ | refine Sq.o rfl rfl (fun _ => rfl) rfl ?_ | refine Sq.off rfl rfl ?_ | refine Sq.nil ?_)
        refine Sq.call rfl rfl rfl rfl (Cv.f ((run367 (f := f1) x1.wf d1 hN (show m - i + i ≤ m + j - i by omega) (show m + j - i + i ≤ N by omega)).mono fun v h2 hv => ?_))
        obtain ⟨d2, x2⟩ := hv
        refine ⟨_, rfl, ?_⟩
        repeat (first | with_reducible refine Rs.seqA ?_ | with_reducible refine Rs.seqRegion ?_ | with_reducible refine Rs.seqSkip ?_ | with_reducible refine Rs.lastRegion ?_ | refine Sq.o rfl rfl (fun _ => rfl) rfl ?_ | refine Sq.off rfl rfl ?_ | refine Sq.nil ?_)
        refine Sq.a rfl rfl (op_sub rfl rfl (by omega) (by omega)) rfl ?_
        repeat (first | with_reducible refine Rs.seqA ?_ | with_reducible refine Rs.seqRegion ?_ | with_reducible refine Rs.seqSkip ?_ | with_reducible refine Rs.lastRegion ?_ | refine Sq.o rfl rfl (fun _ => rfl) rfl ?_ | refine Sq.off rfl rfl ?_ | refine Sq.nil ?_)
        exact ⟨i + (j - i), by omega, i, j - i, _, h2, _, _, _, rfl, rfl, hi, by omega, by rw [rot_right f1 m i j hi.2 (by omega)]; exact hf, d2, x1.trans x2⟩
  · rintro st ⟨i, f1, h1, x20, x23, ts, rfl, hi, hj, hf, d1, x1⟩
    repeat (first | with_reducible refine Rs.seqA ?_ | with_reducible refine Rs.seqRegion ?_ | with_reducible refine Rs.seqSkip ?_ | with_reducible refine Rs.lastRegion ?_ | refine Sq.o rfl rfl (fun _ => rfl) rfl ?_ | refine Sq.off rfl rfl ?_ | refine Sq.nil ?_)
    refine Sq.a rfl rfl (op_sub rfl rfl (by omega) (by omega)) rfl ?_
    repeat (first | with_reducible refine Rs.seqA ?_ | with_reducible refine Rs.seqRegion ?_ | with_reducible refine Rs.seqSkip ?_ | with_reducible refine Rs.lastRegion ?_ | refine Sq.o rfl rfl (fun _ => rfl) rfl ?_ | refine Sq.off rfl rfl ?_ | refine Sq.nil ?_)
    refine Sq.call rfl rfl rfl rfl (Cv.f ((run367 (f := f1) x1.wf d1 hN (show m - i + i ≤ m by omega) (show m + i ≤ N by omega)).mono fun v h2 hv => ?_))
    obtain ⟨d2, x2⟩ := hv
    refine ⟨_, rfl, ?_⟩
    repeat (first | with_reducible refine Rs.seqA ?_ | with_reducible refine Rs.seqRegion ?_ | with_reducible refine Rs.seqSkip ?_ | with_reducible refine Rs.lastRegion ?_ | refine Sq.o rfl rfl (fun _ => rfl) rfl ?_ | refine Sq.off rfl rfl ?_ | refine Sq.nil ?_)
    refine ⟨.inl rfl, _, _, _, rfl, rfl, rfl, ?_, x1.trans x2⟩
    rw [rot_end f1 m i hi.2, hf] at d2
    exact d2
end Go.RA
namespace Go.RA
set_option maxRecDepth 100000

/-! ### Swaps, order -/
inductive SW (a b : Nat) : (Nat → Pr) → (Nat → Pr) → Prop
  | refl (f : Nat → Pr) : SW a b f f
  | step {f g : Nat → Pr} {x y : Nat} : SW a b f g → a ≤ x → x < b → a ≤ y → y < b → SW a b f (swp g x y)
theorem SW.trans {a b : Nat} {f g k : Nat → Pr} (h : SW a b f g) (j : SW a b g k) : SW a b f k := by
  induction j with
  | refl => exact h
  | step _ h1 h2 h3 h4 ih => exact .step ih h1 h2 h3 h4
theorem SW.mono {a b a' b' : Nat} {f g : Nat → Pr} (h : SW a b f g) (ha : a' ≤ a) (hb : b ≤ b') : SW a' b' f g := by
  induction h with
  | refl => exact .refl _
  | step _ h1 h2 h3 h4 ih => exact .step ih (by omega) (by omega) (by omega) (by omega)
theorem SW.out {a b : Nat} {f g : Nat → Pr} (h : SW a b f g) {i : Nat} (hi : i < a ∨ b ≤ i) : g i = f i := by
  induction h with
  | refl => rfl
  | step _ h1 h2 h3 h4 ih =>
    unfold swp
    rw [if_neg (by omega), if_neg (by omega)]; exact ih
theorem SW.mem {a b : Nat} {f g : Nat → Pr} (h : SW a b f g) {i : Nat} (h1 : a ≤ i) (h2 : i < b) : ∃ j, a ≤ j ∧ j < b ∧ g i = f j := by
  induction h generalizing i with
  | refl => exact ⟨i, h1, h2, rfl⟩
  | step _ q1 q2 q3 q4 ih =>
    unfold swp
    split
    · exact ih q1 q2
    · split
      · exact ih q3 q4
      · exact ih h1 h2
theorem swR_SW {lo hi : Nat} (f : Nat → Pr) (a b : Nat) : ∀ n, lo ≤ a → a + n ≤ b → b + n ≤ hi → SW lo hi f (swR f a b n) := by
  intro n
  induction n with
  | zero =>
    intro _ _ _
    have : swR f a b 0 = f := by funext i; unfold swR; rw [if_neg (by omega), if_neg (by omega)]
    rw [this]; exact .refl f
  | succ n ih =>
    intro h1 h2 h3
    rw [← swR_step f a b n (by omega)]
    exact .step (ih h1 (by omega) (by omega)) (by omega) (by omega) (by omega) (by omega)
theorem Rot_SW {lo hi : Nat} : ∀ (k : Nat) (f : Nat → Pr) (m i j : Nat), i + j ≤ k → 1 ≤ i → i ≤ m → 1 ≤ j → lo ≤ m - i → m + j ≤ hi → SW lo hi f (Rot f (m - i) m (m + j)) := by
  intro k
  induction k with
  | zero => intro f m i j h1 h2; omega
  | succ k ih =>
    intro f m i j h1 h2 h3 h4 h5 h6
    by_cases e : i = j
    · subst e
      rw [← rot_end f m i h3]
      exact swR_SW f _ _ i h5 (by omega) (by omega)
    · by_cases l : j < i
      · rw [← rot_left f m i j h3 l]
        exact (swR_SW f _ _ j h5 (by omega) (by omega)).trans (ih _ m (i - j) j (by omega) (by omega) (by omega) h4 (by omega) h6)
      · rw [← rot_right f m i j h3 (by omega)]
        exact (swR_SW f _ _ i h5 (by omega) (by omega)).trans (ih _ m i (j - i) (by omega) h2 h3 (by omega) h5 (by omega))
def Le (x y : Pr) : Prop := cmpR x.2 y.2 ≤ 0
theorem Le.trans {x y z : Pr} (h : Le x y) (k : Le y z) : Le x z := by
  unfold Le at *
  by_cases e1 : cmpR x.2 y.2 = 0
  · rw [ord_row.eq0 _ _ e1]; exact k
  · by_cases e2 : cmpR y.2 z.2 = 0
    · rw [← ord_row.eq0 _ _ e2]; exact h
    · have := ord_row.trans x.2 y.2 z.2 (by omega) (by omega)
      omega
theorem Le.refl (x : Pr) : Le x x := by unfold Le; rw [ord_row.refl]; exact Int.le_refl _
theorem le_of_nlt {x y : Pr} (h : ¬ cmpR y.2 x.2 < 0) : Le x y := by
  unfold Le
  have := ord_row.anti y.2 x.2
  omega
theorem le_of_lt {x y : Pr} (h : cmpR x.2 y.2 < 0) : Le x y := by unfold Le; omega
def Srt (a b : Nat) (f : Nat → Pr) : Prop := ∀ i j, a ≤ i → i < j → j < b → Le (f i) (f j)

theorem run228 {h : AH} {bk N a b : Nat} {f : Nat → Pr} (w : h.WF) (d : DV h bk N f) (hN : N < 1000000) (hab : a ≤ b) (hb : b ≤ N) :
    Cl EA 228 [dv bk N, .int .i64 (Int.ofNat a), .int .i64 (Int.ofNat b), .func (.func 43) #[] #[]] h (fun _ h' => ∃ g, DV h' bk N g ∧ SW a b f g ∧ Srt a b g ∧ KX bk h h') := by
  refine Cl.fn Go.Proofs.Tryz.f228 53 17179886351 [] rfl rfl (by kernel_rfl) rfl rfl (by kernel_rfl) rfl rfl ?_
  repeat (first | with_reducible refine Rs.seqA ?_ | with_reducible refine Rs.seqRegion ?_ | with_reducible refine Rs.seqSkip ?_ | with_reducible refine Rs.lastRegion ?_ | refine Sq.o rfl rfl (fun _ => rfl) rfl ?_ | refine Sq.off rfl rfl ?_ | refine Sq.nil ?_)
  refine Sq.a rfl rfl (op_add (b := 1) rfl rfl (by omega)) rfl ?_
  repeat (first | with_reducible refine Rs.seqA ?_ | with_reducible refine Rs.seqRegion ?_ | with_reducible refine Rs.seqSkip ?_ | with_reducible refine Rs.lastRegion ?_ | refine Sq.o rfl rfl (fun _ => rfl) rfl ?_ | refine Sq.off rfl rfl ?_ | refine Sq.nil ?_)
  refine Rs.lastLoop (fun k st => ∃ i g h1 x9 x14 x34 ts, st = ⟨⟨(.cons 0 (dv bk N) (.cons 1 (.int .i64 (Int.ofNat a)) (.cons 2 (.int .i64 (Int.ofNat b)) (.cons 3 (.func (.func 43) #[] #[]) (.cons 8 (.int .i64 (Int.ofNat i)) (.cons 9 (x9) (.cons 14 (x14) (.cons 34 (x34) .nil)))))))), ts⟩, [], h1⟩ ∧ (i + k = b + 1) ∧ (a + 1 ≤ i) ∧ (DV h1 bk N g) ∧ (SW a b f g) ∧ (Srt a i g) ∧ (KX bk h h1)) (fun st => ∃ g h1 x1 x2 x3 x8 x9 x14 x34 ts, st = ⟨⟨(.cons 0 (dv bk N) (.cons 1 (x1) (.cons 2 (x2) (.cons 3 (x3) (.cons 8 (x8) (.cons 9 (x9) (.cons 14 (x14) (.cons 34 (x34) .nil)))))))), ts⟩, [], h1⟩ ∧ (DV h1 bk N g) ∧ (SW a b f g) ∧ (Srt a b g) ∧ (KX bk h h1)) ?_ ?_ (b - a) _ ⟨a + 1, f, _, _, _, _, _, rfl, by omega, by omega, d, .refl f, (fun i j h1 h2 h3 => by omega), KX.refl w⟩
  · rintro k st ⟨i, g, h1, x9, x14, x34, ts, rfl, hk, hi, d1, s1, o1, x1⟩
    repeat (first | with_reducible refine Rs.seqA ?_ | with_reducible refine Rs.seqRegion ?_ | with_reducible refine Rs.seqSkip ?_ | with_reducible refine Rs.lastRegion ?_ | refine Sq.o rfl rfl (fun _ => rfl) rfl ?_ | refine Sq.off rfl rfl ?_ | refine Sq.nil ?_)
    (first | rw [ilt_nat] | rw [ilt_oc] | rw [ilt_co] | rw [ilt_cc])
    by_cases hib : i < b
    · rw [dec_t hib]
      refine Rs.seqT rfl ?_
      repeat (first | with_reducible refine Rs.seqA ?_ | with_reducible refine Rs.seqRegion ?_ | with_reducible refine Rs.seqSkip ?_ | with_reducible refine Rs.lastRegion ?_ | refine Sq.o rfl rfl (fun _ => rfl) rfl ?_ | refine Sq.off rfl rfl ?_ | refine Sq.nil ?_)
      refine Rs.seqBlock ?_
      repeat (first | with_reducible refine Rs.seqA ?_ | with_reducible refine Rs.seqRegion ?_ | with_reducible refine Rs.seqSkip ?_ | with_reducible refine Rs.lastRegion ?_ | refine Sq.o rfl rfl (fun _ => rfl) rfl ?_ | refine Sq.off rfl rfl ?_ | refine Sq.nil ?_)
      refine Rs.lastLoop (fun k st => ∃ j g2 h2 x14 x34 ts, st = ⟨⟨(.cons 0 (dv bk N) (.cons 1 (.int .i64 (Int.ofNat a)) (.cons 2 (.int .i64 (Int.ofNat b)) (.cons 3 (.func (.func 43) #[] #[]) (.cons 8 (.int .i64 (Int.ofNat i)) (.cons 9 (.int .i64 (Int.ofNat j)) (.cons 14 (x14) (.cons 34 (x34) .nil)))))))), ts⟩, [], h2⟩ ∧ (j = k) ∧ (a ≤ j) ∧ (j ≤ i) ∧ (DV h2 bk N g2) ∧ (SW a b f g2) ∧ (∀ p q, a ≤ p → p < q → q ≤ i → p ≠ j → q ≠ j → Le (g2 p) (g2 q)) ∧ (∀ q, j < q → q ≤ i → Le (g2 j) (g2 q)) ∧ (KX bk h h2)) (fun st => ∃ g2 h2 x9 x14 x34 ts, st = ⟨⟨(.cons 0 (dv bk N) (.cons 1 (.int .i64 (Int.ofNat a)) (.cons 2 (.int .i64 (Int.ofNat b)) (.cons 3 (.func (.func 43) #[] #[]) (.cons 8 (.int .i64 (Int.ofNat i)) (.cons 9 (x9) (.cons 14 (x14) (.cons 34 (x34) .nil)))))))), ts⟩, [], h2⟩ ∧ (DV h2 bk N g2) ∧ (SW a b f g2) ∧ (Srt a (i + 1) g2) ∧ (KX bk h h2)) ?_ ?_ (i) _ ⟨i, g, _, _, _, _, rfl, rfl, by omega, by omega, d1, s1, (fun p q h1 h2 h3 h4 h5 => o1 p q h1 h2 (by omega)), (fun q h1 h2 => by omega), x1⟩
      · rintro k st ⟨j, g2, h2, x14, x34, ts, rfl, hjk, hja, hji, d2, s2, p1, p2, x2⟩
        subst hjk
        repeat (with_reducible refine Rs.seqA ?_)
        by_cases hj : a < j
        · have r1 := d2.row j (by omega)
          have r2 := d2.row (j - 1) (by omega)
          refine Rs.seqDraw (ord := [0, 1, 2, 3, 4, 5, 6, 7, 8, 9, 10, 11, 12, 13, 14, 15, 16]) true x2.wf (by kernel_rfl) (by kernel_rfl) ?_
          repeat (first | refine Dr.c rfl rfl rfl rfl rfl rfl ?_ | refine Dr.off rfl rfl rfl ?_)
          rw [ilt_nat, dec_t hj]
          repeat (first | refine Dr.c rfl rfl rfl rfl rfl rfl ?_ | refine Dr.off rfl rfl rfl ?_)
          refine Dr.o rfl rfl rfl (op_indexAddr rfl rfl (show j < N by omega) rfl rfl) rfl ?_
          refine Dr.r rfl rfl rfl (d2.load (show j < N by omega) rfl) rfl (veq_row r1.1) ?_
          repeat (first | refine Dr.c rfl rfl rfl rfl rfl rfl ?_ | refine Dr.off rfl rfl rfl ?_)
          refine Dr.o rfl rfl rfl (op_sub (b := 1) rfl rfl (by omega) (by omega)) rfl ?_
          refine Dr.o rfl rfl rfl (op_indexAddr rfl rfl (show j - 1 < N by omega) rfl rfl) rfl ?_
          refine Dr.r rfl rfl rfl (d2.load (show j - 1 < N by omega) rfl) rfl (veq_row r2.1) ?_
          refine Dr.call rfl rfl rfl rfl rfl (Cv.f ((run43 x2.wf r1.1 r2.1 r1.2 r2.2).mono fun v h3 hv => ?_))
          obtain ⟨rfl, g3⟩ := hv
          refine ⟨g3.size, g3.wf, fun _ => g3.keep, _, rfl, ?_⟩
          repeat (first | refine Dr.c rfl rfl rfl rfl rfl rfl ?_ | refine Dr.off rfl rfl rfl ?_)
          refine Dr.nil ?_
          have d3 := d2.keepX g3.keep
          have x3 := x2.trans (g3.kx bk)
          by_cases hlt : cmpR (g2 j).2 (g2 (j - 1)).2 < 0
          · have hc : ilt (cmpR (g2 j).2 (g2 (j - 1)).2) 0 = true := by rw [ilt_dec, dec_t hlt]
            refine Rs.seqCond rfl (fun _ => ?_) (fun e => absurd (e.symm.trans hc) (by simp))
            repeat (first | with_reducible refine Rs.seqA ?_ | with_reducible refine Rs.seqRegion ?_ | with_reducible refine Rs.seqSkip ?_ | with_reducible refine Rs.lastRegion ?_ | refine Sq.o rfl rfl (fun _ => rfl) rfl ?_ | refine Sq.off rfl rfl ?_ | refine Sq.nil ?_)
            refine Rs.seqBlock ?_
            refine Rs.lastDraw (ord := [0, 1, 2, 3, 4, 5, 6, 7, 8, 9, 10, 11, 12, 13, 14, 15, 16, 17]) false x3.wf (by kernel_rfl) (by kernel_rfl) ?_
            have r1 := d3.row j (by omega)
            have r2 := d3.row (j - 1) (by omega)
            repeat (first | refine Dr.c rfl rfl rfl rfl rfl rfl ?_ | refine Dr.off rfl rfl rfl ?_)
            refine Dr.o rfl rfl rfl (op_sub (b := 1) rfl rfl (by omega) (by omega)) rfl ?_
            repeat (first | refine Dr.c rfl rfl rfl rfl rfl rfl ?_ | refine Dr.off rfl rfl rfl ?_)
            refine Dr.o rfl rfl rfl (op_sub (b := 1) rfl rfl (by omega) (by omega)) rfl ?_
            refine Dr.o rfl rfl rfl (op_indexAddr rfl rfl (show j - 1 < N by omega) rfl rfl) rfl ?_
            refine Dr.r rfl rfl rfl (d3.load (show j - 1 < N by omega) rfl) rfl (veq_row r2.1) ?_
            repeat (first | refine Dr.c rfl rfl rfl rfl rfl rfl ?_ | refine Dr.off rfl rfl rfl ?_)
            refine Dr.o rfl rfl rfl (op_indexAddr rfl rfl (show j < N by omega) rfl rfl) rfl ?_
            refine Dr.r rfl rfl rfl (d3.load (show j < N by omega) rfl) rfl (veq_row r1.1) ?_
            refine Dr.o rfl rfl rfl (op_indexAddr rfl rfl (show j < N by omega) rfl rfl) rfl ?_
            refine Dr.store x3.wf rfl rfl rfl rfl rfl d3.get (row_store r2.1).1 (by rw [(row_store r2.1).2]; exact cellsOf_set _ _ (show j < N by omega)) rfl fun h4 p4 => ?_
            refine Dr.o rfl rfl rfl (op_indexAddr rfl rfl (show j - 1 < N by omega) rfl rfl) rfl ?_
            refine Dr.store p4.wf rfl rfl rfl rfl rfl p4.is (row_store r1.1).1 (by rw [(row_store r1.1).2]; exact cellsOf_set _ _ (show j - 1 < N by omega)) rfl fun h5 p5 => ?_
            obtain ⟨d5, k5⟩ := d3.two (show j < N by omega) (show j - 1 < N by omega) p4 p5
            refine Dr.nil ?_
            refine Rs.lastRegion ?_
            repeat (first | with_reducible refine Rs.seqA ?_ | with_reducible refine Rs.seqRegion ?_ | with_reducible refine Rs.seqSkip ?_ | with_reducible refine Rs.lastRegion ?_ | refine Sq.o rfl rfl (fun _ => rfl) rfl ?_ | refine Sq.off rfl rfl ?_ | refine Sq.nil ?_)
            refine Sq.a rfl rfl (op_sub (b := 1) rfl rfl (by omega) (by omega)) rfl ?_
            repeat (first | with_reducible refine Rs.seqA ?_ | with_reducible refine Rs.seqRegion ?_ | with_reducible refine Rs.seqSkip ?_ | with_reducible refine Rs.lastRegion ?_ | refine Sq.o rfl rfl (fun _ => rfl) rfl ?_ | refine Sq.off rfl rfl ?_ | refine Sq.nil ?_)
            have q1 : ∀ p, p ≠ j → p ≠ j - 1 → swp g2 j (j - 1) p = g2 p := fun p e1 e2 => by unfold swp; rw [if_neg e2, if_neg e1]
            have q2 : swp g2 j (j - 1) (j - 1) = g2 j := by unfold swp; rw [if_pos rfl]
            have q3 : swp g2 j (j - 1) j = g2 (j - 1) := by unfold swp; rw [if_neg (by omega), if_pos rfl]
            exact ⟨j - 1, by omega, j - 1, _, h5, _, _, _, rfl, rfl, by omega, by omega, d5, .step s2 hja (by omega) (by omega) (by omega), (fun p q e1 e2 e3 e4 e5 => by
              by_cases c1 : q = j
              · subst c1; rw [q3, q1 p (by omega) e4]; exact p1 p (q - 1) e1 (by omega) (by omega) (by omega) (by omega)
              · by_cases c2 : p = j
                · subst c2; rw [q3, q1 q c1 e5]; exact p1 (p - 1) q (by omega) (by omega) e3 (by omega) (by omega)
                · rw [q1 p c2 e4, q1 q c1 e5]; exact p1 p q e1 e2 e3 c2 c1), (fun q e1 e2 => by
              rw [q2]
              by_cases c1 : q = j
              · subst c1; rw [q3]; exact le_of_lt hlt
              · rw [q1 q c1 (by omega)]; exact p2 q (by omega) e2), x3.trans k5⟩
          · have hc : ilt (cmpR (g2 j).2 (g2 (j - 1)).2) 0 = false := by rw [ilt_dec, dec_f hlt]
            refine Rs.seqCond rfl (fun e => absurd (e.symm.trans hc) (by simp)) (fun _ => ?_)
            refine Rs.seqExit ?_
            have hle := le_of_nlt hlt
            exact ⟨rfl, g2, h3, _, _, _, _, rfl, d3, s2, (fun p q e1 e2 e3 => by
              by_cases c1 : q = j
              · subst c1
                by_cases c2 : p = q - 1
                · subst c2; exact hle
                · exact (p1 p (q - 1) e1 (by omega) (by omega) (by omega) (by omega)).trans hle
              · by_cases c2 : p = j
                · subst c2; exact p2 q e2 (by omega)
                · exact p1 p q e1 e2 (by omega) c2 c1), x3⟩
        · refine Rs.seqDraw (ord := [0, 1, 2, 3, 4, 5, 6, 7, 8, 9, 10, 11, 12, 13, 14, 15, 16]) true x2.wf (by kernel_rfl) (by kernel_rfl) ?_
          repeat (first | refine Dr.c rfl rfl rfl rfl rfl rfl ?_ | refine Dr.off rfl rfl rfl ?_)
          rw [ilt_nat, dec_f hj]
          repeat (first | refine Dr.c rfl rfl rfl rfl rfl rfl ?_ | refine Dr.off rfl rfl rfl ?_)
          refine Dr.nil ?_
          refine Rs.seqF rfl ?_
          refine Rs.seqExit ?_
          have e : j = a := by omega
          subst e
          exact ⟨rfl, g2, h2, _, _, _, _, rfl, d2, s2, (fun p q e1 e2 e3 => by
            by_cases c2 : p = j
            · subst c2; exact p2 q e2 (by omega)
            · exact p1 p q e1 e2 (by omega) c2 (by omega)), x2⟩
      · rintro st ⟨g2, h2, x9, x14, x34, ts, rfl, d2, s2, o2, x2⟩
        refine Rs.lastRegion ?_
        repeat (first | with_reducible refine Rs.seqA ?_ | with_reducible refine Rs.seqRegion ?_ | with_reducible refine Rs.seqSkip ?_ | with_reducible refine Rs.lastRegion ?_ | refine Sq.o rfl rfl (fun _ => rfl) rfl ?_ | refine Sq.off rfl rfl ?_ | refine Sq.nil ?_)
        refine Sq.a rfl rfl (op_add (b := 1) rfl rfl (by omega)) rfl ?_
        repeat (first | with_reducible refine Rs.seqA ?_ | with_reducible refine Rs.seqRegion ?_ | with_reducible refine Rs.seqSkip ?_ | with_reducible refine Rs.lastRegion ?_ | refine Sq.o rfl rfl (fun _ => rfl) rfl ?_ | refine Sq.off rfl rfl ?_ | refine Sq.nil ?_)
        exact ⟨k - 1, by omega, i + 1, g2, h2, _, _, _, _, rfl, by omega, by omega, d2, s2, o2, x2⟩
    · rw [dec_f hib]
      refine Rs.seqF rfl ?_
      refine Rs.seqExit ?_
      exact ⟨rfl, g, h1, _, _, _, _, _, _, _, _, rfl, d1, s1, (fun p q e1 e2 e3 => o1 p q e1 e2 (by omega)), x1⟩
  · rintro st ⟨g, h1, x1, x2, x3, x8, x9, x14, x34, ts, rfl, d1, s1, o1, x1⟩
    exact ⟨.inl rfl, _, _, _, rfl, rfl, rfl, g, d1, s1, o1, x1⟩
end Go.RA
namespace Go.RA
set_option maxRecDepth 100000

theorem op_toU {cx : Cx} {tm : Fr} {h : AH} {x : Operand} {n : Nat} (hx : opnd cx tm x = some (.int .i64 (Int.ofNat n))) (hn : n < 9223372036854775808) : aOp EA cx (.convert 3 242 x) tm h = some (.int .u64 (Int.ofNat n), h) := by
  have h1 : EA.und 3 = some (.int .i64) := by kernel_rfl
  have h2 : EA.und 242 = some (.int .u64) := by kernel_rfl
  have hb : Nat.blt n 18446744073709551616 = true := by rw [Nat.blt_eq]; omega
  simp only [aOp, hx, Option.bind_some, aConv, h1, h2, fwrap, hb, cond_true, Option.map_some]
theorem op_toI {cx : Cx} {tm : Fr} {h : AH} {x : Operand} {n : Nat} (hx : opnd cx tm x = some (.int .u64 (Int.ofNat n))) (hn : n < 9223372036854775808) : aOp EA cx (.convert 242 3 x) tm h = some (.int .i64 (Int.ofNat n), h) := by
  have h1 : EA.und 3 = some (.int .i64) := by kernel_rfl
  have h2 : EA.und 242 = some (.int .u64) := by kernel_rfl
  simp only [aOp, hx, Option.bind_some, aConv, h1, h2, fwrap_nat hn, Option.map_some]
theorem op_half {cx : Cx} {tm : Fr} {h : AH} {t ty : TypeId} {x y : Operand} {n : Nat} {k : IntKind} (hx : opnd cx tm x = some (.int .u64 (Int.ofNat n))) (hy : opnd cx tm y = some (.int k 1)) : aOp EA cx (.binOp .shr t x y ty) tm h = some (.int .u64 (Int.ofNat (n / 2)), h) := by
  have e : aBin EA .shr t (.int .u64 (Int.ofNat n)) (.int k 1) = some (.int .u64 ((Int.ofNat n).fdiv 2)) := rfl
  have e2 : (Int.ofNat n).fdiv 2 = Int.ofNat (n / 2) := by
    show ((n : Int)).fdiv 2 = ((n / 2 : Nat) : Int)
    rw [Int.fdiv_eq_ediv_of_nonneg _ (by omega)]; omega
  simp only [aOp, hx, hy, Option.bind_some, e, e2, Option.map_some]
theorem ieq_oc (a : Nat) (b : Nat) : ieq (Int.ofNat a) (b : Int) = decide (a = b) := ieq_nat a b

/-- The first of a part, moved to the place k. -/
def shU (f : Nat → Pr) (a k : Nat) : Nat → Pr := fun p => if a ≤ p ∧ p < k then f (p + 1) else if p = k then f a else f p
theorem shU_step (f : Nat → Pr) (a k : Nat) (h : a ≤ k) : swp (shU f a k) k (k + 1) = shU f a (k + 1) := by
  funext p
  unfold swp shU
  by_cases h1 : p = k + 1
  · subst h1
    rw [if_pos rfl, if_neg (show ¬ (a ≤ k ∧ k < k) by omega), if_pos rfl, if_neg (show ¬ (a ≤ k + 1 ∧ k + 1 < k + 1) by omega), if_pos rfl]
  · rw [if_neg h1]
    by_cases h2 : p = k
    · subst h2
      rw [if_pos rfl, if_neg (show ¬ (a ≤ p + 1 ∧ p + 1 < p) by omega), if_neg (show ¬ p + 1 = p by omega), if_pos (show a ≤ p ∧ p < p + 1 by omega)]
    · rw [if_neg h2]
      by_cases h3 : a ≤ p ∧ p < k
      · rw [if_pos h3, if_pos (show a ≤ p ∧ p < k + 1 by omega)]
      · rw [if_neg h3, if_neg h2, if_neg (show ¬ (a ≤ p ∧ p < k + 1) by omega), if_neg h1]
/-- The place m, moved down to the place k. -/
def shD (f : Nat → Pr) (m k : Nat) : Nat → Pr := fun p => if k < p ∧ p ≤ m then f (p - 1) else if p = k then f m else f p
theorem shD_step (f : Nat → Pr) (m k : Nat) (h : k ≤ m) (h0 : 0 < k) : swp (shD f m k) k (k - 1) = shD f m (k - 1) := by
  funext p
  unfold swp shD
  by_cases h1 : p = k - 1
  · subst h1
    rw [if_pos rfl, if_neg (show ¬ (k < k ∧ k ≤ m) by omega), if_pos rfl, if_neg (show ¬ (k - 1 < k - 1 ∧ k - 1 ≤ m) by omega), if_pos rfl]
  · rw [if_neg h1]
    by_cases h2 : p = k
    · subst h2
      rw [if_pos rfl, if_neg (show ¬ (p < p - 1 ∧ p - 1 ≤ m) by omega), if_neg (show ¬ p - 1 = p by omega), if_pos (show p - 1 < p ∧ p ≤ m by omega)]
    · rw [if_neg h2]
      by_cases h3 : k < p ∧ p ≤ m
      · rw [if_pos h3, if_pos (show k - 1 < p ∧ p ≤ m by omega)]
      · rw [if_neg h3, if_neg h2, if_neg (show ¬ (k - 1 < p ∧ p ≤ m) by omega), if_neg h1]
theorem shU_srt {f : Nat → Pr} {a b i : Nat} (hi1 : a + 1 ≤ i) (hib : i ≤ b) (hs : Srt (a + 1) b f) (h1 : ∀ k, a + 1 ≤ k → k < i → Le (f k) (f a)) (h2 : ∀ k, i ≤ k → k < b → Le (f a) (f k)) : Srt a b (shU f a (i - 1)) := by
  intro p q hp hpq hq
  unfold shU
  by_cases c1 : p < i - 1
  · rw [if_pos (show a ≤ p ∧ p < i - 1 by omega)]
    by_cases c2 : q < i - 1
    · rw [if_pos (show a ≤ q ∧ q < i - 1 by omega)]
      exact hs (p + 1) (q + 1) (by omega) (by omega) (by omega)
    · rw [if_neg (show ¬ (a ≤ q ∧ q < i - 1) by omega)]
      by_cases c3 : q = i - 1
      · rw [if_pos c3]; exact h1 (p + 1) (by omega) (by omega)
      · rw [if_neg c3]; exact hs (p + 1) q (by omega) (by omega) hq
  · rw [if_neg (show ¬ (a ≤ p ∧ p < i - 1) by omega), if_neg (show ¬ (a ≤ q ∧ q < i - 1) by omega), if_neg (show ¬ q = i - 1 by omega)]
    by_cases c3 : p = i - 1
    · rw [if_pos c3]; exact h2 q (by omega) hq
    · rw [if_neg c3]; exact hs p q (by omega) hpq hq
theorem shD_srt {f : Nat → Pr} {a m i : Nat} (hi1 : a ≤ i) (him : i ≤ m) (hs : Srt a m f) (h1 : ∀ k, a ≤ k → k < i → Le (f k) (f m)) (h2 : ∀ k, i ≤ k → k < m → Le (f m) (f k)) : Srt a (m + 1) (shD f m i) := by
  intro p q hp hpq hq
  unfold shD
  by_cases c1 : i < q
  · rw [if_pos (show i < q ∧ q ≤ m by omega)]
    by_cases c2 : i < p
    · rw [if_pos (show i < p ∧ p ≤ m by omega)]
      exact hs (p - 1) (q - 1) (by omega) (by omega) (by omega)
    · rw [if_neg (show ¬ (i < p ∧ p ≤ m) by omega)]
      by_cases c3 : p = i
      · rw [if_pos c3]; exact h2 (q - 1) (by omega) (by omega)
      · rw [if_neg c3]; exact hs p (q - 1) (by omega) (by omega) (by omega)
  · rw [if_neg (show ¬ (i < q ∧ q ≤ m) by omega), if_neg (show ¬ (i < p ∧ p ≤ m) by omega), if_neg (show ¬ p = i by omega)]
    by_cases c3 : q = i
    · rw [if_pos c3]; exact h1 p hp (by omega)
    · rw [if_neg c3]; exact hs p q hp hpq (by omega)
/-- What is left of the middle is not greater than what is right of it. -/
theorem cross {f : Nat → Pr} {a m b mid s : Nat} (ham : a < m) (hmb : m < b) (hmid : mid = (a + b) / 2) (sl : Srt a m f) (sr : Srt m b f)
    (hs1 : (if mid < m then mid + m - b else a) ≤ s) (hs2 : s ≤ (if mid < m then mid else m))
    (hl : s = (if mid < m then mid + m - b else a) ∨ Le (f (s - 1)) (f (mid + m - s))) (hr : s = (if mid < m then mid else m) ∨ Le (f (mid + m - 1 - s)) (f s)) :
    ∀ p q, a ≤ p → p < mid → mid ≤ q → q < b → Le (Rot f s m (mid + m - s) p) (Rot f s m (mid + m - s) q) := by
  intro p q hp1 hp2 hq1 hq2
  have sle : ∀ x y, a ≤ x → x ≤ y → y < m → Le (f x) (f y) := fun x y h1 h2 h3 => by
    by_cases e : x = y
    · subst e; exact Le.refl _
    · exact sl x y h1 (by omega) h3
  have sre : ∀ x y, m ≤ x → x ≤ y → y < b → Le (f x) (f y) := fun x y h1 h2 h3 => by
    by_cases e : x = y
    · subst e; exact Le.refl _
    · exact sr x y h1 (by omega) h3
  -- the parts
  have hp : (p < s ∧ Rot f s m (mid + m - s) p = f p) ∨ (s ≤ p ∧ Rot f s m (mid + m - s) p = f (p + (m - s))) := by
    split at hs1 <;> split at hs2 <;> (try omega) <;>
    · by_cases c : p < s
      · exact .inl ⟨c, Rot_out _ _ _ _ _ (by omega) (by omega)⟩
      · exact .inr ⟨by omega, Rot_in1 _ _ _ _ _ (by omega)⟩
  have hq : (mid + m - s ≤ q ∧ Rot f s m (mid + m - s) q = f q) ∨ (q < mid + m - s ∧ Rot f s m (mid + m - s) q = f (q - (mid + m - s - m))) := by
    split at hs1 <;> split at hs2 <;> (try omega) <;>
    · by_cases c : mid + m - s ≤ q
      · exact .inl ⟨c, Rot_out _ _ _ _ _ (by omega) (by omega)⟩
      · exact .inr ⟨by omega, Rot_in2 _ _ _ _ _ (by omega) (by omega)⟩
  rcases hp with ⟨c1, e1⟩ | ⟨c1, e1⟩ <;> rcases hq with ⟨c2, e2⟩ | ⟨c2, e2⟩ <;> rw [e1, e2]
  · rcases hl with hl | hl
    · split at hl <;> split at hs2 <;> omega
    · split at hs1 <;> split at hs2 <;> (try omega) <;> exact ((sle p (s - 1) hp1 (by omega) (by omega)).trans hl).trans (sre (mid + m - s) q (by omega) c2 hq2)
  · split at hs1 <;> split at hs2 <;> (try omega) <;> exact sle p _ hp1 (by omega) (by omega)
  · split at hs1 <;> split at hs2 <;> (try omega) <;> exact sre _ q (by omega) (by omega) hq2
  · rcases hr with hr | hr
    · split at hr <;> split at hs1 <;> omega
    · split at hs1 <;> split at hs2 <;> (try omega) <;> exact ((sre _ (mid + m - 1 - s) (by omega) (by omega) (by omega)).trans hr).trans (sle s _ (by omega) (by omega) (by omega))
theorem rot_id (f : Nat → Pr) {s m e : Nat} (h : s = m ∨ e = m) (h1 : s ≤ m) (h2 : m ≤ e) : Rot f s m e = f := by
  funext k
  by_cases c1 : s ≤ k ∧ k < s + (e - m)
  · rw [Rot_in1 _ _ _ _ _ c1]; congr 1 <;> omega
  · by_cases c2 : s + (e - m) ≤ k ∧ k < e
    · rw [Rot_in2 _ _ _ _ _ c1 c2]; congr 1 <;> omega
    · rw [Rot_out _ _ _ _ _ c1 c2]
theorem rot_parts {f : Nat → Pr} {a m b mid s : Nat} (sl : Srt a m f) (sr : Srt m b f) (h1 : a ≤ s) (h2 : s ≤ m) (h3 : s ≤ mid) (h4 : mid + m - s ≤ b) :
    Srt a s (Rot f s m (mid + m - s)) ∧ Srt s mid (Rot f s m (mid + m - s)) ∧ Srt mid (mid + m - s) (Rot f s m (mid + m - s)) ∧ Srt (mid + m - s) b (Rot f s m (mid + m - s)) := by
  refine ⟨fun p q e1 e2 e3 => ?_, fun p q e1 e2 e3 => ?_, fun p q e1 e2 e3 => ?_, fun p q e1 e2 e3 => ?_⟩
  · rw [Rot_out _ _ _ _ _ (by omega) (by omega), Rot_out _ _ _ _ _ (by omega) (by omega)]
    exact sl p q e1 e2 (by omega)
  · rw [Rot_in1 _ _ _ _ _ (by omega), Rot_in1 _ _ _ _ _ (by omega)]
    exact sr _ _ (by omega) (by omega) (by omega)
  · rw [Rot_in2 _ _ _ _ _ (by omega) (by omega), Rot_in2 _ _ _ _ _ (by omega) (by omega)]
    exact sl _ _ (by omega) (by omega) (by omega)
  · rw [Rot_out _ _ _ _ _ (by omega) (by omega), Rot_out _ _ _ _ _ (by omega) (by omega)]
    exact sr p q (by omega) e2 e3
theorem Srt.congr {a b : Nat} {f g : Nat → Pr} (h : Srt a b f) (e : ∀ i, a ≤ i → i < b → g i = f i) : Srt a b g := fun i j h1 h2 h3 => by
  rw [e i h1 (by omega), e j (by omega) h3]; exact h i j h1 h2 h3
theorem Srt.join {a s b : Nat} {f : Nat → Pr} (h1 : Srt a s f) (h2 : Srt s b f) (h : s ≤ a ∨ b ≤ s) : Srt a b f := fun i j q1 q2 q3 => by
  rcases h with h | h
  · exact h2 i j (by omega) q2 q3
  · exact h1 i j q1 q2 (by omega)
theorem merge_final {a mid b : Nat} {r g2 g3 : Nat → Pr} (hc : ∀ p q, a ≤ p → p < mid → mid ≤ q → q < b → Le (r p) (r q)) (s2 : SW a mid r g2) (o2 : Srt a mid g2) (s3 : SW mid b g2 g3) (o3 : Srt mid b g3) : Srt a b g3 := fun p q h1 h2 h3 => by
  by_cases c1 : q < mid
  · rw [s3.out (.inl (by omega)), s3.out (.inl c1)]
    exact o2 p q h1 h2 c1
  · by_cases c2 : mid ≤ p
    · exact o3 p q c2 h2 h3
    · rw [s3.out (i := p) (.inl (by omega))]
      obtain ⟨p', a1, a2, a3⟩ := s2.mem h1 (show p < mid by omega)
      obtain ⟨q', b1, b2, b3⟩ := s3.mem (show mid ≤ q by omega) h3
      rw [a3, b3, s2.out (.inr b1)]
      exact hc p' q' a1 a2 b1 b2
end Go.RA
