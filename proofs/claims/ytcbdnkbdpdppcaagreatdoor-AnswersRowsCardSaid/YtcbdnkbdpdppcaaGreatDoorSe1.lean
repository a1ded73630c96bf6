/-
  The call of the law returns true in the model, whatever its arguments, and leaves what lay in memory. Condition: the arguments are slices of rows of terms, as the reading of the arguments tells.
-/
import Derived.Test.YtcbdnkbdpdppcaaGreatDoorSd4
import Derived.DataReads
import Derived.Test.YtcbdnkbdpdppcaaGreatDoorRows
import Derived.Test.YtcbdnkbdpdppcaaGreatDoorSc3
namespace Go.RA
open Go.Proofs
set_option maxRecDepth 100000

/-! ### What the reading of the arguments tells of memory -/
variable {H : Type} {enc : TypeId × Value → H} {W : World} {sp : Nat → Bool} {held : Bool}
noncomputable abbrev TP : Program := Tryz.prog
theorem choose_list {α : Type} {Q : Nat → α → Prop} : ∀ {n : Nat}, (∀ i, i < n → ∃ x, Q i x) → ∃ l : List α, l.length = n ∧ ∀ i (hi : i < l.length), Q i l[i] := by
  intro n
  induction n with
  | zero => intro _; exact ⟨[], rfl, fun i hi => by simp at hi⟩
  | succ n ih =>
    intro h
    obtain ⟨l, h1, h2⟩ := ih fun i hi => h i (by omega)
    obtain ⟨x, hx⟩ := h n (by omega)
    refine ⟨l ++ [x], by simp [h1], fun i hi => ?_⟩
    by_cases c : i < l.length
    · rw [List.getElem_append_left c]; exact h2 i c
    · have e : i = n := by simp at hi; omega
      subst e
      rw [List.getElem_append_right (by omega)]
      simpa using hx
theorem trod_int {fuel : Nat} {cs : List Value} {d : DataW H × List MemPlace} (h : DataW.trod enc TP W 0 sp held fuel 61 cs = some d) : ∃ n, cs = [.int .i64 n] := by
  cases fuel with
  | zero => simp [DataW.trod] at h
  | succ n =>
    unfold DataW.trod at h
    rw [Tryz.underlying61] at h
    split at h <;> simp_all
theorem trod_str {fuel : Nat} {cs : List Value} {d : DataW H × List MemPlace} (h : DataW.trod enc TP W 0 sp held fuel 9 cs = some d) : ∃ s, cs = [.string s] := by
  cases fuel with
  | zero => simp [DataW.trod] at h
  | succ n =>
    unfold DataW.trod at h
    rw [Tryz.underlying9] at h
    split at h <;> simp_all
theorem trod_bool {fuel : Nat} {cs : List Value} {d : DataW H × List MemPlace} (h : DataW.trod enc TP W 0 sp held fuel 4 cs = some d) : ∃ b, cs = [.bool b] := by
  cases fuel with
  | zero => simp [DataW.trod] at h
  | succ n =>
    unfold DataW.trod at h
    rw [Tryz.underlying4] at h
    split at h <;> simp_all
theorem cells61 : TP.cellsOf 61 = 1 := by kernel_rfl
theorem cells9 : TP.cellsOf 9 = 1 := by kernel_rfl
theorem cells63 : TP.cellsOf 63 = 3 := by kernel_rfl
theorem cells87 : TP.cellsOf 87 = 1 := by kernel_rfl
theorem trod_term {fuel : Nat} {cs : List Value} {d : DataW H × List MemPlace} (h : DataW.trod enc TP W 0 sp held fuel 63 cs = some d) : ∃ t : Tm, cs = encT t := by
  cases fuel with
  | zero => simp [DataW.trod] at h
  | succ n =>
    unfold DataW.trod at h
    rw [Tryz.underlying63] at h
    simp only at h
    split at h
    · rename_i hl
      rw [cells63] at hl
      simp only [Option.map_eq_some_iff] at h
      obtain ⟨xs, hx, _⟩ := h
      have h0 := mapM_some_get hx 0 _ rfl
      have h1 := mapM_some_get hx 1 _ rfl
      have h2 := mapM_some_get hx 2 _ rfl
      have hlen := mapM_some_length hx
      have g : ∀ i, i < xs.length → ∃ y, xs[i]? = some y := fun i hi => ⟨_, List.getElem?_eq_getElem hi⟩
      obtain ⟨y0, e0⟩ := g 0 (by rw [hlen]; decide)
      obtain ⟨y1, e1⟩ := g 1 (by rw [hlen]; decide)
      obtain ⟨y2, e2⟩ := g 2 (by rw [hlen]; decide)
      rw [e0] at h0
      rw [e1] at h1
      rw [e2] at h2
      obtain ⟨a, q0⟩ := trod_int h0
      obtain ⟨b, q1⟩ := trod_str h1
      obtain ⟨c, q2⟩ := trod_str h2
      rw [cells61] at q0
      rw [cells9] at q1 q2
      refine ⟨⟨a, b, c⟩, ?_⟩
      match cs, hl with
      | [x, y, z], _ =>
        simp at q0 q1 q2
        rw [q0, q1, q2]; rfl
    · cases h
theorem trod_slice {fuel : Nat} {t e : TypeId} (ht : TP.underlying t = some (.slice e)) {cs : List Value} {d : DataW H × List MemPlace} (hsp : ∀ b, sp b = true) (h : DataW.trod enc TP W 0 sp held fuel t cs = some d) :
    ∃ y, cs = [y] ∧ (y = .slice none 0 0 ∨ ∃ a n c fuel', y = .slice (some a) n c ∧ n ≤ c ∧ ∀ j, j < c → ∃ es d', W.cells? 0 (a.add (j * TP.cellsOf e)) (TP.cellsOf e) = some es ∧ DataW.trod enc TP W 0 sp held fuel' e es = some d') := by
  cases fuel with
  | zero => simp [DataW.trod] at h
  | succ fu =>
    unfold DataW.trod at h
    rw [ht] at h
    split at h <;> try (rename_i heq _; cases heq; done)
    all_goals (try (rename_i heq; cases heq; done))
    all_goals (try (exfalso; simp_all; done))
    · exact ⟨_, rfl, .inl rfl⟩
    · rename_i heq
      cases heq
      rename_i a n c
      simp only at h
      split at h
      · rename_i hc
        rw [hsp] at h
        simp only [if_true, Option.bind_eq_some_iff, Option.map_eq_some_iff] at h
        obtain ⟨elems, he, rest, hr, _⟩ := h
        refine ⟨_, rfl, .inr ⟨a, n, c, fu, rfl, hc.2.1, fun j hj => ?_⟩⟩
        have key : ∀ z, (W.cells? 0 (a.add (j * TP.cellsOf e)) (TP.cellsOf e)).bind (DataW.trod enc TP W 0 sp held fu e) = some z → ∃ es d', W.cells? 0 (a.add (j * TP.cellsOf e)) (TP.cellsOf e) = some es ∧ DataW.trod enc TP W 0 sp held fu e es = some d' := fun z hz => by
          rw [Option.bind_eq_some_iff] at hz
          obtain ⟨es, h1, h2⟩ := hz
          exact ⟨es, z, h1, h2⟩
        by_cases hjn : j < n
        · have h1 := mapM_some_get he j j (by simp [hjn])
          have hl := mapM_some_length he
          simp at hl
          rw [List.getElem?_eq_getElem (by omega)] at h1
          exact key _ h1
        · have h1 := mapM_some_get hr (j - n) (j - n) (by rw [List.getElem?_range (by omega)])
          have hl := mapM_some_length hr
          simp at hl
          rw [List.getElem?_eq_getElem (by omega), show n + (j - n) = j by omega] at h1
          exact key _ h1
      · cases h
/-- A concrete slice of terms. -/
def ConcRow (W : World) (y : Value) (row : List Tm) : Prop :=
  (y = .slice none 0 0 ∧ row = []) ∨ ∃ a c, y = .slice (some a) row.length c ∧ row.length ≤ c ∧
    (row ≠ [] → a.spot = none ∧ ∃ cs e fz, W.heap[a.block]? = some (.cells cs e fz) ∧ a.off + c * 3 ≤ cs.size ∧ ∀ i, i < row.length * 3 → cs[a.off + i]? = (encR row)[i]?)
def ConcRows (W : World) (y : Value) (rows : List (List Tm)) : Prop :=
  (y = .slice none 0 0 ∧ rows = []) ∨ ∃ a c, y = .slice (some a) rows.length c ∧ rows.length ≤ c ∧
    (rows ≠ [] → a.spot = none ∧ ∃ cs e fz, W.heap[a.block]? = some (.cells cs e fz) ∧ a.off + c * 1 ≤ cs.size ∧ ∀ i (hi : i < rows.length), ∃ x, cs[a.off + i]? = some x ∧ ConcRow W x rows[i])
theorem cell_at {a : Addr} {n : Nat} {es : List Value} (hn : 0 < n) (h : W.cells? 0 a n = some es) : a.spot = none ∧ ∃ cs e fz, W.heap[a.block]? = some (.cells cs e fz) ∧ ∀ i, i < n → ∃ x, cs[a.off + i]? = some x ∧ es[i]? = some x := by
  obtain ⟨_, hl, hc⟩ := World.cells?_some h
  have h0 := hc 0 hn
  rw [List.getElem?_eq_getElem (by omega)] at h0
  unfold World.cell? at h0
  have ha : a.add 0 = a := by simp [Addr.add]
  rw [ha] at h0
  split at h0
  · rename_i cs e fz hg
    cases hs : a.spot with
    | some q => rw [hs] at h0; simp at h0
    | none =>
      refine ⟨rfl, cs, e, fz, hg, fun i hi => ?_⟩
      have h1 := hc i hi
      rw [List.getElem?_eq_getElem (by omega)] at h1
      unfold World.cell? at h1
      by_cases e0 : i = 0
      · subst e0
        rw [ha, hg, hs] at h1
        simp at h1
        exact ⟨_, by simpa using h1, List.getElem?_eq_getElem _⟩
      · have e1 : a.add i = { a with off := a.off + i, spot := none } := by simp [Addr.add, e0]
        rw [e1] at h1
        simp only [hg] at h1
        exact ⟨_, by simpa using h1, List.getElem?_eq_getElem _⟩
  · cases h0
theorem add_spot {a : Addr} {n : Nat} (h : a.spot = none) : a.add n = ⟨a.block, a.off + n, none⟩ := by
  unfold Addr.add
  split
  · rename_i e; subst e
    obtain ⟨b, o, s⟩ := a
    simp only at h
    subst h
    rfl
  · rfl
theorem trod_row {fuel : Nat} {cs : List Value} {d : DataW H × List MemPlace} (hsp : ∀ b, sp b = true) (h : DataW.trod enc TP W 0 sp held fuel 87 cs = some d) : ∃ y row, cs = [y] ∧ ConcRow W y row := by
  obtain ⟨y, rfl, k⟩ := trod_slice Tryz.underlying87 hsp h
  rcases k with rfl | ⟨a, n, c, fu, rfl, hnc, hj⟩
  · exact ⟨_, [], rfl, .inl ⟨rfl, rfl⟩⟩
  · rw [cells63] at hj
    obtain ⟨row, hl, hr⟩ := choose_list (n := n) (Q := fun j t => W.cells? 0 (a.add (j * 3)) 3 = some (encT t)) fun j hjn => by
      obtain ⟨es, d', h1, h2⟩ := hj j (by omega)
      obtain ⟨t, rfl⟩ := trod_term h2
      exact ⟨t, h1⟩
    subst hl
    refine ⟨_, row, rfl, .inr ⟨a, c, rfl, hnc, fun hne => ?_⟩⟩
    have hpos : 0 < row.length := List.length_pos_iff.2 hne
    obtain ⟨es, d', h1, _⟩ := hj 0 (by omega)
    have ha0 : a.add (0 * 3) = a := by simp [Addr.add]
    rw [ha0] at h1
    obtain ⟨hs, ds, e, fz, hg, _⟩ := cell_at (by omega) h1
    refine ⟨hs, ds, e, fz, hg, ?_, fun i hi => ?_⟩
    · obtain ⟨es2, _, h3, _⟩ := hj (c - 1) (by omega)
      rw [add_spot hs] at h3
      obtain ⟨_, ds2, e2, fz2, hg2, hx⟩ := cell_at (by omega) h3
      simp only at hg2 hx
      rw [hg] at hg2; cases hg2
      obtain ⟨x, hx1, _⟩ := hx 2 (by omega)
      have := (Array.getElem?_eq_some_iff.1 hx1).1
      omega
    · have hq : i / 3 < row.length := by omega
      have h3 := hr (i / 3) hq
      rw [add_spot hs] at h3
      obtain ⟨_, ds2, e2, fz2, hg2, hx⟩ := cell_at (by omega) h3
      simp only at hg2 hx
      rw [hg] at hg2; cases hg2
      obtain ⟨x, hx1, hx2⟩ := hx (i % 3) (by omega)
      have e3 : (encR row)[i]? = (encT row[i / 3])[i % 3]? := by
        have h4 := encR_drop row (i / 3)
        rw [List.drop_eq_getElem_cons hq] at h4
        have h5 : (encR row)[i]? = ((encR row).drop (i / 3 * 3))[i % 3]? := by
          rw [List.getElem?_drop]; congr 1 <;> omega
        rw [h5, h4]
        show (encT row[i / 3] ++ encR (row.drop (i / 3 + 1)))[i % 3]? = _
        rw [List.getElem?_append_left (by show i % 3 < 3; omega)]
      rw [e3, hx2, ← hx1]; congr 1 <;> omega
theorem trod_rows {fuel : Nat} {cs : List Value} {d : DataW H × List MemPlace} (hsp : ∀ b, sp b = true) (h : DataW.trod enc TP W 0 sp held fuel 69 cs = some d) : ∃ y rows, cs = [y] ∧ ConcRows W y rows := by
  obtain ⟨y, rfl, k⟩ := trod_slice Tryz.underlying69 hsp h
  rcases k with rfl | ⟨a, n, c, fu, rfl, hnc, hj⟩
  · exact ⟨_, [], rfl, .inl ⟨rfl, rfl⟩⟩
  · rw [cells87] at hj
    obtain ⟨rows, hl, hr⟩ := choose_list (n := n) (Q := fun j r => ∃ x, W.cells? 0 (a.add (j * 1)) 1 = some [x] ∧ ConcRow W x r) fun j hjn => by
      obtain ⟨es, d', h1, h2⟩ := hj j (by omega)
      obtain ⟨x, r, rfl, h3⟩ := trod_row hsp h2
      exact ⟨r, x, h1, h3⟩
    subst hl
    refine ⟨_, rows, rfl, .inr ⟨a, c, rfl, hnc, fun hne => ?_⟩⟩
    have hpos : 0 < rows.length := List.length_pos_iff.2 hne
    obtain ⟨es, d', h1, _⟩ := hj 0 (by omega)
    have ha0 : a.add (0 * 1) = a := by simp [Addr.add]
    rw [ha0] at h1
    obtain ⟨hs, ds, e, fz, hg, _⟩ := cell_at (by omega) h1
    refine ⟨hs, ds, e, fz, hg, ?_, fun i hi => ?_⟩
    · obtain ⟨es2, _, h3, _⟩ := hj (c - 1) (by omega)
      rw [add_spot hs] at h3
      obtain ⟨_, ds2, e2, fz2, hg2, hx⟩ := cell_at (by omega) h3
      simp only at hg2 hx
      rw [hg] at hg2; cases hg2
      obtain ⟨x, hx1, _⟩ := hx 0 (by omega)
      have := (Array.getElem?_eq_some_iff.1 hx1).1
      omega
    · obtain ⟨x, h3, h4⟩ := hr i hi
      rw [add_spot hs] at h3
      obtain ⟨_, ds2, e2, fz2, hg2, hx⟩ := cell_at (by omega) h3
      simp only at hg2 hx
      rw [hg] at hg2; cases hg2
      obtain ⟨z, hz1, hz2⟩ := hx 0 (by omega)
      simp at hz2
      subst hz2
      exact ⟨x, by rw [← hz1]; congr 1 <;> omega, h4⟩
end Go.RA
namespace Go.RA
open Go.Proofs Go.RowKit
set_option maxRecDepth 100000

theorem Inv.ro {w0 : World} {r : Rho} {h : AH} {w : World} (k : Inv w0 r h w) {L : Loc} {cs : List Value} {z : Nat} (hL : L.b < w0.heap.size) (ho : ObjR r L (.cells cs RO z) w) : Inv w0 (r.set h.size L) (h.pushed (.cells cs RO z)) w := by
  have k1 := k.push (push_pushed h (.cells cs RO z))
  have hx : Ext r (r.set h.size L) := Rho.set_ext k.fresh
  have hg : (h.pushed (.cells cs RO z)).get h.size = some (.cells cs RO z) := get_pushed h _
  have hlive : ∀ o, (h.pushed (.cells cs RO z)).get h.size = some o → o.live = false := fun o e => by
    rw [hg] at e; cases e; simp [AObj.live]
  refine ⟨k1.kb, fun b M e => ?_, fun b M o' e g => ?_, fun b M o' e g => ?_, fun a b A B o' p ea eb hab ga gb la lb => ?_⟩
  · by_cases hb : b = h.size
    · subst hb; simp at e; subst e
      exact ⟨Nat.lt_succ_self _, Nat.lt_of_lt_of_le hL k.kb.size⟩
    · simp [Rho.set, hb] at e; exact k1.dom b M e
  · by_cases hb : b = h.size
    · subst hb; simp at e; subst e
      exact ⟨fun hl => (by rw [hlive _ g] at hl; cases hl), fun _ _ => hL⟩
    · simp [Rho.set, hb] at e; exact k1.base b M o' e g
  · by_cases hb : b = h.size
    · subst hb; simp at e; subst e
      rw [hg] at g; cases g
      exact ho.same hx fun _ => rfl
    · simp [Rho.set, hb] at e; exact (k1.obj b M o' e g).same hx fun _ => rfl
  · by_cases ha : a = h.size
    · subst ha; rw [hlive _ ga] at la; cases la
    · by_cases hb : b = h.size
      · subst hb; rw [hlive _ gb] at lb; cases lb
      · simp [Rho.set, ha] at ea
        simp [Rho.set, hb] at eb
        exact k1.sep a b A B o' p ea eb hab ga gb la lb
theorem encR_plain (row : List Tm) : ∀ x ∈ encR row, plain1 x = true := by
  induction row with
  | nil => intro x hx; cases hx
  | cons t r ih =>
    intro x hx
    rw [encR_cons] at hx
    simp only [List.mem_cons] at hx
    rcases hx with rfl | rfl | rfl | hx
    · rfl
    · rfl
    · rfl
    · exact ih x hx
theorem start_row {W : World} {r : Rho} {h : AH} (k : Inv W r h W) (wf : h.WF) {y : Value} {row : List Tm} (hc : ConcRow W y row) :
    ∃ r' h' x, Inv W r' h' W ∧ Grow h h' r r' ∧ GR h h' ∧ RowV h' x row ∧ CR r' x y := by
  rcases hc with ⟨rfl, rfl⟩ | ⟨a, c, rfl, hle, hne⟩
  · exact ⟨r, h, .slice none 0 0, k, Grow.refl h r, GR.refl wf, ⟨none, 0, rfl, rfl, rfl⟩, rfl⟩
  · by_cases he : row = []
    · subst he
      exact ⟨r, h, .slice (some ⟨0, 0, some 0⟩) 0 INEX, k, Grow.refl h r, GR.refl wf, ⟨some ⟨0, 0, some 0⟩, INEX, rfl, rfl⟩, ⟨rfl, a, c, rfl⟩⟩
    · obtain ⟨hs, cs, e, fz, hg, hsz, hcs⟩ := hne he
      have hb : a.block < W.heap.size := (Array.getElem?_eq_some_iff.1 hg).1
      have ho : ObjR r ⟨a.block, a.off, c, 3⟩ (.cells (encR row) RO 3) W := by
        refine ⟨rfl, cs, e, fz, hg, .inl (by simp), hsz, by rw [encR_len]; exact Nat.mul_le_mul_right _ hle, fun i x hx => ?_⟩
        have hi := (List.getElem?_eq_some_iff.1 hx).1
        rw [encR_len] at hi
        have hp := encR_plain row x (List.mem_of_getElem? hx)
        exact ⟨x, by rw [hcs i hi]; exact hx, CR.of_base (plain1_base hp) (plain1_BR r hp)⟩
      have k2 := k.ro hb ho
      refine ⟨_, _, .slice (some ⟨h.size, 0, none⟩) row.length (if INEX ≤ c then INEX + 3 else c), k2, Grow.push (push_pushed h _) r _, gr_pushed wf _, ⟨some ⟨h.size, 0, none⟩, _, rfl, _, RO, get_pushed _ _, ?_⟩, ⟨_, c, Rho.set_same _ _ _, ?_, hle, ?_⟩⟩
      · rw [List.drop_zero, List.take_of_length_le (by rw [encR_len]; exact Nat.le_refl _)]
      · obtain ⟨ab, ao, asp⟩ := a
        simp only at hs
        subst hs
        rfl
      · by_cases hi : INEX ≤ c
        · rw [if_pos hi, if_pos (by omega)]
          exact ⟨rfl, by show 0 < 3; omega, ⟨0, rfl⟩, by simp⟩
        · rw [if_neg hi, if_neg hi]
theorem start_list {W : World} {ys : List Value} {rows : List (List Tm)} (hc : LR (ConcRow W) ys rows) : ∀ {r : Rho} {h : AH}, Inv W r h W → h.WF →
    ∃ r' h' xs, Inv W r' h' W ∧ Grow h h' r r' ∧ GR h h' ∧ LR (RowV h') xs rows ∧ LR (CR r') xs ys := by
  induction hc with
  | nil => intro r h k wf; exact ⟨r, h, [], k, Grow.refl h r, GR.refl wf, .nil, .nil⟩
  | cons q _ ih =>
    intro r h k wf
    obtain ⟨r1, h1, x, k1, g1, gr1, v1, c1⟩ := start_row k wf q
    obtain ⟨r2, h2, xs, k2, g2, gr2, v2, c2⟩ := ih k1 gr1.wf
    exact ⟨r2, h2, x :: xs, k2, g1.trans g2, gr1.trans gr2, .cons (v1.keep gr2.keep) v2, .cons (c1.mono (g2.ext k1)) c2⟩
theorem start_rows {W : World} {r : Rho} {h : AH} (k : Inv W r h W) (wf : h.WF) {y : Value} {rows : List (List Tm)} (hc : ConcRows W y rows) :
    ∃ r' h' x, Inv W r' h' W ∧ Grow h h' r r' ∧ GR h h' ∧ RowsV h' x rows ∧ CR r' x y := by
  rcases hc with ⟨rfl, rfl⟩ | ⟨a, c, rfl, hle, hne⟩
  · exact ⟨r, h, .slice none 0 0, k, Grow.refl h r, GR.refl wf, ⟨none, 0, rfl, rfl, rfl⟩, rfl⟩
  · by_cases he : rows = []
    · subst he
      exact ⟨r, h, .slice (some ⟨0, 0, some 0⟩) 0 INEX, k, Grow.refl h r, GR.refl wf, ⟨some ⟨0, 0, some 0⟩, INEX, rfl, rfl⟩, ⟨rfl, a, c, rfl⟩⟩
    · obtain ⟨hs, cs, e, fz, hg, hsz, hcs⟩ := hne he
      have hb : a.block < W.heap.size := (Array.getElem?_eq_some_iff.1 hg).1
      obtain ⟨ys, hyl, hys⟩ := choose_list (n := rows.length) (Q := fun i x => cs[a.off + i]? = some x ∧ ∃ hi : i < rows.length, ConcRow W x rows[i]) fun i hi => by
        obtain ⟨x, h1, h2⟩ := hcs i hi
        exact ⟨x, h1, hi, h2⟩
      have hlr : LR (ConcRow W) ys rows := LR.iff.2 ⟨hyl, fun i x row h1 h2 => by
        have hi := (List.getElem?_eq_some_iff.1 h1).1
        obtain ⟨_, hi2, h3⟩ := hys i hi
        rw [List.getElem?_eq_getElem hi] at h1
        rw [List.getElem?_eq_getElem hi2] at h2
        cases h1; cases h2; exact h3⟩
      obtain ⟨r1, h1, xs, k1, g1, gr1, v1, c1⟩ := start_list hlr k wf
      have hxl := c1.length
      have ho : ObjR r1 ⟨a.block, a.off, c, 1⟩ (.cells xs RO 1) W := by
        refine ⟨rfl, cs, e, fz, hg, .inl (by simp), hsz, (by show xs.length ≤ c * 1; omega), fun i x hx => ?_⟩
        rw [← lget_eq] at hx
        obtain ⟨y, hy, hxy⟩ := c1.lget hx
        have hi := (List.getElem?_eq_some_iff.1 hy).1
        obtain ⟨h2, _⟩ := hys i hi
        rw [List.getElem?_eq_getElem hi] at hy
        cases hy
        exact ⟨_, h2, hxy⟩
      have k2 := k1.ro hb ho
      refine ⟨_, _, .slice (some ⟨h1.size, 0, none⟩) rows.length (if INEX ≤ c then INEX + 1 else c), k2, g1.trans (Grow.push (push_pushed h1 _) r1 _), gr1.trans (gr_pushed gr1.wf _), ⟨some ⟨h1.size, 0, none⟩, _, rfl, _, RO, get_pushed _ _, ?_⟩, ⟨_, c, Rho.set_same _ _ _, ?_, hle, ?_⟩⟩
      · rw [List.drop_zero, List.take_of_length_le (by omega)]
        exact v1.mono fun _ _ q => q.keep (gr_pushed gr1.wf _).keep
      · obtain ⟨ab, ao, asp⟩ := a
        simp only at hs
        subst hs
        rfl
      · by_cases hi : INEX ≤ c
        · rw [if_pos hi, if_pos (by omega)]
          exact ⟨rfl, by show 0 < 1; omega, ⟨0, rfl⟩, by simp⟩
        · rw [if_neg hi, if_neg hi]
theorem memoA_ok (f : FuncId) (args : List Value) (v : Value) (h : memoA f args = some v) : args.all plain = true ∧ plain v = true ∧ (∀ w, (callFunc f ⟨args⟩).run Go.Proofs.Tryz.prog w = .ok (.enter f ⟨args⟩) w) ∧
    ∀ n w, CallsIn Fence.wide n Go.Proofs.Tryz.prog f ⟨args⟩ w fun e w' => e = .returned v ∧ Below w.heap.size w w' := by
  unfold memoA at h
  cases h1 : Nat.beq f 30 with
  | false => rw [h1] at h; cases h
  | true =>
    have hf := Nat.eq_of_beq_eq_true h1
    subst hf
    rw [h1] at h
    simp only [cond_true] at h
    split at h
    · cases h
      have hc := fun w => aTop_calls (P := Go.Proofs.Tryz.prog) E1_ok top30 rfl rfl rfl w
      exact ⟨rfl, rfl, fun w => (hc w).1, fun n w => (hc w).2.more (Nat.zero_le n)⟩
    · cases h
theorem EA_ok : EnvOK Go.Proofs.Tryz.prog EA := ⟨tyT_ok, fnT_ok, extT_ok, memoA_ok, by kernel_rfl⟩
theorem nil_WF : (⟨0, .e⟩ : AH).WF := fun _ _ => rfl
/-- The law holds of whatever rows its arguments are. -/
theorem law6 (W : World) {yl yo : Value} {l o : List (List Tm)} (hl : ConcRows W yl l) (ho : ConcRows W yo o) (yes : Bool) :
    CallsIn Fence.wide 0 Go.Proofs.Tryz.prog 6 #[yl, yo, .bool yes] W fun e w' => e = .returned (.bool true) ∧ Below W.heap.size W w' := by
  have k : Inv W (fun _ => none) ⟨0, .e⟩ W := ⟨Below.refl _ _, fun _ _ e => (by cases e), fun _ _ _ e => (by cases e), fun _ _ _ e => (by cases e), fun _ _ _ _ _ _ e => (by cases e)⟩
  obtain ⟨r1, h1, x1, k1, g1, gr1, v1, c1⟩ := start_rows k nil_WF hl
  obtain ⟨r2, h2, x2, k2, g2, gr2, v2, c2⟩ := start_rows k1 gr1.wf ho
  obtain ⟨N, v, h3, hr, hv, _⟩ := run6 (yes := yes) gr2.wf (v1.keep gr2.keep) v2
  subst hv
  have hb : aBody EA (aRun EA N) 6 [x1, x2, .bool yes] h2 = some (.bool true, h3) := hr N (Nat.le_refl N)
  obtain ⟨a1, n1, b1⟩ := v1.slice
  obtain ⟨a2, n2, b2⟩ := v2.slice
  have hcell1 : Value.isCell x1 = true := by rw [b1]; rfl
  have hcell2 : Value.isCell x2 = true := by rw [b2]; rfl
  have hlr : LR (VR r2) [x1, x2, .bool yes] (#[yl, yo, .bool yes] : Array Value).toList :=
    .cons (VR.of_cell hcell1 (c1.mono (g2.ext k1))) (.cons (VR.of_cell hcell2 c2) (.cons (plain_VR r2 rfl) .nil))
  refine (aBody_calls EA_ok k2 hlr hb).2.mono fun e w' ⟨y, he, r', _, k', hy⟩ => ?_
  rw [he, plain_eq (x := .bool true) rfl hy]
  exact ⟨rfl, k'.kb⟩
end Go.RA
