/- append, in the logic: the rules. -/
import Derived.Test.YtohchoelhnipmaaQAppend
namespace Go.Proofs.Ytohchoelhnipmaa.Q
open Go Go.RowKit
set_option linter.unusedSimpArgs false
set_option linter.unusedVariables false

variable {P : Program} {σ : St} {K : Ex → St → Prop}

theorem grown_ge (w : World) (need old : Nat) (e : TypeId) : need ≤ grownCap w need old e := by
  show need ≤ need + _
  exact Nat.le_add_right _ _

theorem drew_holds {X : Ctx} {T : Tab} {a : Act} {w : World} (h : HoldsT X T σ a w) : HoldsT X T σ a w.drew := h.congr rfl rfl rfl rfl

theorem rep_drew {w : World} {L : Nat → Prop} {T : Tab} {q : V} {v : Value} (h : Rep w L T q v) : Rep w.drew L T q v :=
  h.later (Nat.le_refl _) (fun _ _ _ => rfl) (fun _ _ h => h) (fun _ C _ hc => ⟨C, hc, rfl⟩) (fun _ _ h => h)

/-- The call of append. -/
def isAppend (o : Oper) (s x : Operand) (t tx : TypeId) : Prop := ∃ args : Array Operand, o.op = .call { callee := .builtin .append, args := args, argTypes := #[t, tx] } ∧ args = #[s, x]

theorem run_of_append {o : Oper} {s x : Operand} {t tx : TypeId} (ho : isAppend o s x t tx) {a : Act} {w w' : World} {v : Value}
    (h : (Builtin.append_ #[t, tx] o.type #[a.eval s, a.eval x]).run P w = .ok v w') : (execOp a.eval o).run P w = .ok (.value v) w' := by
  obtain ⟨args, ho, rfl⟩ := ho
  simp [execOp, ho, resolve, invoke, builtin, h]

/-- An element's type. -/
structure ElOK (P : Program) (t : TypeId) (e es eb : Nat) : Prop where
  und : P.underlying t = some (.slice e)
  info : ∃ (i : TypeInfo) (z : Value), P.info? e = some i ∧ i.size = es ∧ i.bytes = eb ∧ i.zero = some z ∧ z.cells.size = es

theorem ElOK.of {t : TypeId} {ti te : TI} {e es eb : Nat} (ht : TyOK P t ti) (hs : ti.sh = .slice e es eb) (he : TyOK P e te) (hz : te.zero.length = es) : ElOK P t e es eb := by
  obtain ⟨hu, i, hi, h1, h2⟩ := slice_of ht hs
  have hz' := he.zero
  rw [hi] at hz'
  cases hzz : i.zero with
  | none => rw [Option.map_some, hzz] at hz'; simp at hz'
  | some z =>
    rw [Option.map_some, hzz] at hz'
    simp at hz'
    refine ⟨hu, i, z, hi, h1, h2, hzz, ?_⟩
    have := congrArg List.length hz'
    simp at this
    omega

theorem qo_append_nil {rm : List Nat} {o : Oper} {s x : Operand} {t tx : TypeId} {e es eb : Nat} {q : V} {rows : List (List V)} {e' : TypeId} {N : St → Prop} (ho : isAppend o s x t tx)
    (hsv : evalV σ s = some (.sc (.slice none 0 0))) (hx : evalV σ x = some q) (hr : rowsOf σ es q = some rows) (hel : ElOK P t e es eb) (htx : P.underlying tx = some (.slice e'))
    (hs : 0 < es) (hne : 0 < rows.length) (h63 : rows.length ≤ 9223372036854775807) (h48 : rows.length * eb ≤ 281474976710656) (hd : dstOK o σ = true)
    (h : N (({ σ with objs := σ.objs ++ [some ⟨es, rows⟩] } : St).put o.dst (.sl σ.objs.length 0 rows.length))) : QO P rm o σ N K := by
  intro X T a w hh
  obtain ⟨hu, i, z, hi, h1, h2, hz, hzs⟩ := hel
  subst h1 h2
  have e1 := rep_sc (eval_rep hh hsv)
  rcases src_cells hh (eval_rep hh hx) hr hs with ⟨e2, _⟩ | ⟨b, off, c, news, e2, g1, g2, g3, g4⟩
  · subst e2; simp at hne
  · obtain ⟨C, hrun, hC⟩ := run_app_nil w t tx o.type e e' i z hu htx hi hz ⟨b, off, none⟩ rows.length c news g1 g2 hne h63 h48
    have hh' := drew_holds hh
    obtain ⟨k1, k2⟩ := hh'.new ⟨i.size, rows⟩ (news.toArray ++ C) e g4 (fun r row hrow c q hq => by
      obtain ⟨v, f1, f2⟩ := g3 r row hrow c q hq
      refine ⟨v, ?_, rep_drew f2⟩
      rw [Array.getElem?_append_left (by have := lt_of_get f1; simpa using this)]
      simpa using f1)
    unfold Oper.wp
    rw [run_of_append ho (by rw [e1, e2]; exact hrun)]
    refine ⟨_, _, h, k1.put (v := .sl σ.objs.length 0 rows.length) ?_ (dstOK_spec hd), stab_more w.drew _, ?_⟩
    · have := Rep.sl (w := more w.drew (.cells (news.toArray ++ C) e (0, 0))) (L := Live X.A (T ++ [(w.drew.heap.size, i.size)]) (σ.objs ++ [some ⟨i.size, rows⟩])) (T := T ++ [(w.drew.heap.size, i.size)])
        σ.objs.length 0 rows.length (grownCap w rows.length 0 e) w.drew.heap.size i.size (by rw [← hh.mem.len]; simp) (grown_ge _ _ _ _)
        ⟨_, _, more_new _ _, by
          have hge := grown_ge w rows.length 0 e
          simp only [Array.size_append, List.size_toArray, g1, hC, hzs]
          rw [Nat.zero_add, ← Nat.add_mul]
          exact Nat.mul_le_mul_right _ (by omega)⟩
      simpa using this
    · rw [put_objs]
      exact fun b hb => rmB_more hh.mem.len b hb

/-- Nothing is appended. -/
theorem qo_append_none {rm : List Nat} {o : Oper} {s x : Operand} {t tx : TypeId} {e es eb : Nat} {q p : V} {e' : TypeId} {N : St → Prop} (ho : isAppend o s x t tx)
    (hsv : evalV σ s = some p) (hp : (match p with | .sc (.slice none 0 0) => true | .sl _ _ _ => true | _ => false) = true) (hx : evalV σ x = some q)
    (hr : rowsOf σ es q = some []) (hel : ElOK P t e es eb) (htx : P.underlying tx = some (.slice e')) (hs : 0 < es) (hd : dstOK o σ = true)
    (h : N (σ.put o.dst p)) : QO P rm o σ N K := by
  intro X T a w hh
  obtain ⟨hu, i, z, hi, h1, h2, hz, hzs⟩ := hel
  have hpr := eval_rep hh hsv
  have hbase : ∃ b n c, a.eval s = .slice b n c ∧ n ≤ c := by
    cases p with
    | sc v =>
      have := rep_sc hpr
      cases v with
      | slice ad n c =>
        cases ad with
        | none =>
          cases n with
          | zero => cases c with
            | zero => exact ⟨none, 0, 0, this, Nat.le_refl _⟩
            | succ c => simp at hp
          | succ n => simp at hp
        | some ad => simp at hp
      | _ => simp at hp
    | sl k off len => obtain ⟨b, s, cap, _, hc, _, e1⟩ := rep_sl hpr; exact ⟨_, _, _, e1, hc⟩
    | _ => simp at hp
  obtain ⟨b, n, c, e1, hc⟩ := hbase
  have hsrc : ∃ ad c, a.eval x = .slice ad 0 c := by
    rcases src_cells hh (eval_rep hh hx) hr hs with ⟨_, c', e2⟩ | ⟨b, off, c, news, e2, _⟩
    · exact ⟨_, _, e2⟩
    · exact ⟨_, _, by simpa using e2⟩
  obtain ⟨ad, c', e2⟩ := hsrc
  unfold Oper.wp
  rw [run_of_append ho (by rw [e1, e2]; exact run_app_none w t tx o.type e e' i hu htx hi b n c hc ad c')]
  refine ⟨T, _, h, ?_, Stab.refl _ _, fun _ _ hb => by rw [put_objs] at hb; exact hb⟩
  rw [← e1]
  exact hh.put hpr (dstOK_spec hd)

/-- A block of an object of one's own is written anew; the object has another number then. -/
theorem HoldsT.inplace {X : Ctx} {T : Tab} {a : Act} {w w' : World} (h : HoldsT X T σ a w) {k : Nat} {ob : Ob} (hk : σ.objs[k]? = some (some ob)) (hmay : may σ k = true) {b : Nat} (hT : T[k]? = some (b, ob.s))
    (rows : List (List V)) (C C' : Array Value) (t : TypeId) (hb : w.heap[b]? = some (.cells C t (0, 0))) (hb' : w'.heap[b]? = some (.cells C' t (0, 0))) (hsz : C'.size = C.size)
    (hother : ∀ j, j ≠ b → w'.heap[j]? = w.heap[j]?) (hsize : w'.heap.size = w.heap.size) (hos : w'.os = w.os) (htape : w'.tape = w.tape) (hout : w'.output = w.output)
    (hrows : ∀ row ∈ rows, row.length = ob.s ∧ ∀ q ∈ row, q.one = true)
    (hC : ∀ (r : Nat) (row : List V), rows[r]? = some row → ∀ (c : Nat) (q : V), row[c]? = some q → ∃ v, C'[r * ob.s + c]? = some v ∧ Rep w (Live X.A T σ.objs) T q v) :
    HoldsT X (T ++ [(b, ob.s)]) { σ with objs := σ.objs.set k none ++ [some ⟨ob.s, rows⟩] } a w' ∧
    (∀ rm : List Nat, k ∈ rm → Stab (rmB T σ.objs rm) w w' ∧ ∀ b1, rmB (T ++ [(b, ob.s)]) (σ.objs.set k none ++ [some ⟨ob.s, rows⟩]) rm b1 → rmB T σ.objs rm b1) := by
  have hlen := h.mem.len
  have hkl := lt_of_get hk
  have hold : ∀ (j : Nat) (p : Nat × Nat), T[j]? = some p → (T ++ [(b, ob.s)])[j]? = some p := fun j p hp => by rw [List.getElem?_append_left (lt_tab hp)]; exact hp
  have hobj : ∀ (j : Nat) (x : Ob), (σ.objs.set k none ++ [some ⟨ob.s, rows⟩])[j]? = some (some x) → (j < σ.objs.length ∧ j ≠ k ∧ σ.objs[j]? = some (some x)) ∨ (j = σ.objs.length ∧ x = ⟨ob.s, rows⟩) := by
    intro j x hj
    rcases Nat.lt_or_ge j σ.objs.length with g | g
    · rw [List.getElem?_append_left (by simpa using g), List.getElem?_set] at hj
      split at hj
      · first
          | cases hj
          | (split at hj <;> cases hj)
      · rename_i hne
        exact .inl ⟨g, fun e => hne e.symm, hj⟩
    · rw [List.getElem?_append_right (by simpa using g)] at hj
      simp at hj
      have hlt := lt_of_get hj
      simp at hlt
      have : j - σ.objs.length = 0 := by omega
      rw [this] at hj
      simp at hj
      exact .inr ⟨by omega, hj.symm⟩
  have hl : ∀ b1, Live X.A (T ++ [(b, ob.s)]) (σ.objs.set k none ++ [some ⟨ob.s, rows⟩]) b1 → Live X.A T σ.objs b1 := by
    rintro b1 (h1 | ⟨j, x, s, h1, h2⟩)
    · exact .inl h1
    · rcases hobj j x h1 with ⟨g1, g2, g3⟩ | ⟨g1, g2⟩
      · rw [List.getElem?_append_left (by omega)] at h2
        exact .inr ⟨j, x, s, g3, h2⟩
      · subst g1
        rw [List.getElem?_append_right (by omega), hlen] at h2
        simp at h2
        rw [← h2.1]
        exact .inr ⟨k, ob, ob.s, hk, hT⟩
  have hlb : Live X.A T σ.objs b := .inr ⟨k, ob, ob.s, hk, hT⟩
  have hshape : ∀ (j : Nat) (D : Array Value) (u : TypeId), w.heap[j]? = some (.cells D u (0, 0)) → ∃ D' : Array Value, w'.heap[j]? = some (.cells D' u (0, 0)) ∧ D'.size = D.size := by
    intro j D u hj
    by_cases e : j = b
    · subst e
      rw [hb] at hj
      cases hj
      exact ⟨C', hb', hsz⟩
    · exact ⟨D, by rw [hother j e]; exact hj, rfl⟩
  have hrep : ∀ (q : V) (v : Value), Rep w (Live X.A T σ.objs) T q v → Rep w' (Live X.A (T ++ [(b, ob.s)]) (σ.objs.set k none ++ [some ⟨ob.s, rows⟩])) (T ++ [(b, ob.s)]) q v :=
    fun q v hq => hq.later (by omega) (fun j _ hn => hother j fun e => hn (by subst e; exact hlb)) (fun j _ hn h3 => hn (hl j h3)) hshape hold
  refine ⟨⟨fun j p hp => hold j p (h.pre j p hp), ⟨by simp [hlen], ?_, ?_, fun j hj => by rw [hsize]; exact h.mem.avoid j hj⟩, fun t v hv => hrep _ _ (h.tmp t v hv), h.size, h.defers, ?_, ?_, h.avoid0, h.hm, h.hmods⟩, ?_⟩
  · intro j x hj
    rcases hobj j x hj with ⟨g1, g2, g3⟩ | ⟨g1, g2⟩
    · obtain ⟨b1, h1, h2, D, u, h3, h4, h5⟩ := h.mem.obj j x g3
      have hne : b1 ≠ b := fun e => g2 (by subst e; exact h.mem.inj j k x ob b1 _ _ g3 hk h1 hT)
      refine ⟨b1, hold _ _ h1, h2, D, u, by rw [hother b1 hne]; exact h3, h4, fun r row hr c q hq => ?_⟩
      obtain ⟨v, h6, h7⟩ := h5 r row hr c q hq
      exact ⟨v, h6, hrep _ _ h7⟩
    · subst g1 g2
      obtain ⟨b1, h1, h2, _⟩ := h.mem.obj k ob hk
      rw [hT] at h1
      injection h1 with h1
      injection h1 with h1 _
      subst h1
      refine ⟨b, by rw [List.getElem?_append_right (by omega), hlen]; simp, h2, C', t, hb', hrows, fun r row hr c q hq => ?_⟩
      obtain ⟨v, h6, h7⟩ := hC r row hr c q hq
      exact ⟨v, h6, hrep _ _ h7⟩
  · intro i j x y b1 s s' hi hj hbi hbj
    have old : ∀ (j : Nat) (s : Nat), j < σ.objs.length → (T ++ [(b, ob.s)])[j]? = some (b1, s) → T[j]? = some (b1, s) := fun j s hj hb1 => by
      rw [List.getElem?_append_left (by omega)] at hb1; exact hb1
    have new : ∀ (j : Nat) (s : Nat), j = σ.objs.length → (T ++ [(b, ob.s)])[j]? = some (b1, s) → b1 = b := fun j s hj hb1 => by
      subst hj
      rw [List.getElem?_append_right (by omega), hlen] at hb1
      simp at hb1
      exact hb1.1.symm
    rcases hobj i x hi with ⟨g1, g2, g3⟩ | ⟨g1, g2⟩ <;> rcases hobj j y hj with ⟨f1, f2, f3⟩ | ⟨f1, f2⟩
    · exact h.mem.inj i j x y b1 _ _ g3 f3 (old i s g1 hbi) (old j s' f1 hbj)
    · have e1 := new j s' f1 hbj
      subst e1
      exact absurd (h.mem.inj i k x ob b1 _ _ g3 hk (old i s g1 hbi) hT) g2
    · have e1 := new i s g1 hbi
      subst e1
      exact absurd (h.mem.inj j k y ob b1 _ _ f3 hk (old j s' f1 hbj) hT) f2
    · omega
  · have hk0 := h.keep
    have hM := may_spec h hmay hT
    refine ⟨hos.trans hk0.os, htape.trans hk0.tape, hout.trans hk0.output, by rw [hsize]; exact hk0.size, fun j hj hn => ?_, fun j D u hj => ?_⟩
    · rw [hother j (fun e => by
        subst e
        rcases hM with g | g
        · omega
        · exact hn g)]
      exact hk0.block j hj hn
    · obtain ⟨D1, h1, h2⟩ := hk0.shape j D u hj
      obtain ⟨D2, h3, h4⟩ := hshape j D1 u h1
      exact ⟨D2, h3, h4.trans h2⟩
  · intro j b1 s hj hb1
    rcases Nat.lt_or_ge j T.length with g | g
    · rw [List.getElem?_append_left g] at hb1
      exact h.fresh j b1 s hj hb1
    · have h3 := lt_tab hb1
      simp at h3
      have : j = T.length := by omega
      subst this
      simp at hb1
      rw [← hb1.1]
      exact may_spec h hmay hT
  · intro rm hrm
    refine ⟨⟨by omega, fun j _ hn => hother j fun e => hn (by subst e; exact ⟨k, ob, ob.s, hrm, hk, hT⟩)⟩, fun b1 hb1 => ?_⟩
    obtain ⟨j, x, s, h1, h2, h3⟩ := hb1
    rcases hobj j x h2 with ⟨g1, g2, g3⟩ | ⟨g1, g2⟩
    · rw [List.getElem?_append_left (by omega)] at h3
      exact ⟨j, x, s, h1, g3, h3⟩
    · subst g1
      rw [List.getElem?_append_right (by omega), hlen] at h3
      simp at h3
      rw [← h3.1]
      exact ⟨k, ob, ob.s, hrm, hk, hT⟩

/-- Something is appended to a slice of one's own. -/
theorem qo_append {rm : List Nat} {o : Oper} {s x : Operand} {t tx : TypeId} {e es eb k len : Nat} {q : V} {ob : Ob} {rows : List (List V)} {e' : TypeId} {N : St → Prop} (ho : isAppend o s x t tx)
    (hsv : evalV σ s = some (.sl k 0 len)) (hk : σ.objs[k]? = some (some ob)) (hst : ob.s = es) (hlen : len ≤ ob.rows.length) (hx : evalV σ x = some q) (hr : rowsOf σ es q = some rows) (hel : ElOK P t e es eb)
    (htx : P.underlying tx = some (.slice e')) (hs : 0 < es) (hne : 0 < rows.length) (h63 : len + rows.length ≤ 9223372036854775807) (h47 : (len + rows.length) * eb ≤ 140737488355328) (hd : dstOK o σ = true)
    (hmay : may σ k = true) (hrm : k ∈ rm)
    (h : N (({ σ with objs := σ.objs.set k none ++ [some ⟨es, ob.rows.take len ++ rows⟩] } : St).put o.dst (.sl σ.objs.length 0 (len + rows.length)))) : QO P rm o σ N K := by
  intro X T a w hh
  obtain ⟨hu, i, z, hi, h1, h2, hz, hzs⟩ := hel
  subst hst h2
  obtain ⟨b, s', cap, hT, hc, hroom, e1⟩ := rep_sl (eval_rep hh hsv)
  obtain ⟨b', hT', hA, C, u, hb, hrows, hcells⟩ := hh.mem.obj k ob hk
  rw [hT] at hT'
  injection hT' with hT'
  injection hT' with i1 i2
  subst i1 i2
  obtain ⟨C1, u1, hb1, hcap⟩ := hroom
  rw [hb] at hb1
  injection hb1 with hb1
  injection hb1 with j1 j2
  subst j1 j2
  rw [Nat.zero_mul] at e1
  rw [Nat.zero_add] at hcap
  rcases src_cells hh (eval_rep hh hx) hr hs with ⟨e2, _⟩ | ⟨b2, off, c, news, e2, g1, g2, g3, g4⟩
  · subst e2; simp at hne
  have hrows2 : ∀ row ∈ ob.rows.take len ++ rows, row.length = ob.s ∧ ∀ q ∈ row, q.one = true := by
    intro row hrow
    rcases List.mem_append.mp hrow with g | g
    · exact hrows row (List.mem_of_mem_take g)
    · exact g4 row g
  have htl : (ob.rows.take len).length = len := by simp; omega
  have htot : (ob.rows.take len ++ rows).length = len + rows.length := by simp; omega
  -- a cell of the new rows is of the old ones, or of those that are appended
  have split : ∀ (r : Nat) (row : List V), (ob.rows.take len ++ rows)[r]? = some row → ∀ (c : Nat) (q : V), row[c]? = some q →
      (r < len ∧ ∃ v, C[r * ob.s + c]? = some v ∧ Rep w (Live X.A T σ.objs) T q v) ∨ (len ≤ r ∧ ∃ v, news[(r - len) * ob.s + c]? = some v ∧ Rep w (Live X.A T σ.objs) T q v) := by
    intro r row hrow c q hq
    rcases Nat.lt_or_ge r len with g | g
    · rw [List.getElem?_append_left (by omega), List.getElem?_take, if_pos g] at hrow
      exact .inl ⟨g, hcells r row hrow c q hq⟩
    · rw [List.getElem?_append_right (by omega), htl] at hrow
      exact .inr ⟨g, g3 _ row hrow c q hq⟩
  have hnews1 : ∀ v ∈ news, v.oneCell' = true := by
    intro v hv
    obtain ⟨j, hj⟩ := List.getElem?_of_mem hv
    have hjl := lt_of_get hj
    have hr' : j / ob.s < rows.length := by rw [g1] at hjl; exact (Nat.div_lt_iff_lt_mul hs).mpr hjl
    have hrow : rows[j / ob.s]? = some rows[j / ob.s] := List.getElem?_eq_getElem hr'
    have hl := g4 rows[j / ob.s] (List.getElem_mem hr')
    have hcl : j % ob.s < rows[j / ob.s].length := by rw [hl.1]; exact Nat.mod_lt _ hs
    obtain ⟨v', f1, f2⟩ := g3 _ _ hrow (j % ob.s) _ (List.getElem?_eq_getElem hcl)
    rw [show j / ob.s * ob.s + j % ob.s = j by rw [Nat.mul_comm]; exact Nat.div_add_mod j ob.s, hj] at f1
    cases f1
    exact one_of_rep f2 (hl.2 _ (List.getElem_mem hcl))
  rcases Nat.lt_or_ge cap (len + rows.length) with hg | hg
  · -- a new array
    obtain ⟨olds, o1, o2, o3⟩ := flat_fn (w := w) (b := b) (o := 0) (rows := ob.rows.take len) (R := Rep w (Live X.A T σ.objs) T) hs htl (fun row hrow => (hrows row (List.mem_of_mem_take hrow)).1)
      (fun r row hrow c q hq => by
        rw [List.getElem?_take] at hrow
        split at hrow
        · obtain ⟨v, f1, f2⟩ := hcells r row hrow c q hq
          exact ⟨v, by simp [World.cell?, hb, f1], f2⟩
        · cases hrow)
    obtain ⟨D, hrun, hD⟩ := run_app_grow w t tx o.type e e' i z hu htx hi hz ⟨b, 0, none⟩ len cap olds (by rw [o1, h1]) o2 ⟨b2, off, none⟩ rows.length c news (by rw [g1, h1]) g2 hg h63 h47
    have hh' := drew_holds hh
    obtain ⟨k1, k2⟩ := hh'.new ⟨ob.s, ob.rows.take len ++ rows⟩ ((olds ++ news).toArray ++ D) e hrows2 (fun r row hrow c q hq => by
      have key : ∃ v, (olds ++ news)[r * ob.s + c]? = some v ∧ Rep w (Live X.A T σ.objs) T q v := by
        rcases Nat.lt_or_ge r len with g | g
        · have hrow' : (ob.rows.take len)[r]? = some row := by rw [List.getElem?_append_left (by omega)] at hrow; exact hrow
          obtain ⟨v, f1, f2⟩ := o3 r row hrow' c q hq
          exact ⟨v, by rw [List.getElem?_append_left (lt_of_get f1)]; exact f1, f2⟩
        · rw [List.getElem?_append_right (by omega), htl] at hrow
          obtain ⟨v, f1, f2⟩ := g3 _ row hrow c q hq
          refine ⟨v, ?_, f2⟩
          have hge : len * ob.s ≤ r * ob.s := Nat.mul_le_mul_right _ g
          rw [List.getElem?_append_right (by rw [o1]; omega), o1]
          rw [show r * ob.s + c - len * ob.s = (r - len) * ob.s + c by rw [Nat.sub_mul]; omega]
          exact f1
      obtain ⟨v, f1, f2⟩ := key
      refine ⟨v, ?_, rep_drew f2⟩
      have hlt := lt_of_get f1
      rw [Array.getElem?_append_left (by simpa using hlt)]
      simpa using f1)
    obtain ⟨k3, k4, k5⟩ := k1.kill k
    unfold Oper.wp
    rw [run_of_append ho (by rw [e1, e2]; exact hrun)]
    have hset : List.set (σ.objs ++ [some (⟨ob.s, ob.rows.take len ++ rows⟩ : Ob)]) k none = σ.objs.set k none ++ [some (⟨ob.s, ob.rows.take len ++ rows⟩ : Ob)] := by
      rw [List.set_append_left _ _ (lt_of_get hk)]
    simp only [hset] at k3 k4 k5
    refine ⟨_, _, h, k3.put (v := .sl σ.objs.length 0 (len + rows.length)) ?_ (dstOK_spec hd), ⟨(stab_more (N := rmB T σ.objs rm) w.drew _).1, fun b1 hb1 hn => (stab_more (N := rmB T σ.objs rm) w.drew _).2 b1 hb1 hn⟩, ?_⟩
    · have := Rep.sl (w := more w.drew (.cells ((olds ++ news).toArray ++ D) e (0, 0))) (L := Live X.A (T ++ [(w.drew.heap.size, ob.s)]) (σ.objs.set k none ++ [some ⟨ob.s, ob.rows.take len ++ rows⟩])) (T := T ++ [(w.drew.heap.size, ob.s)])
        σ.objs.length 0 (len + rows.length) (grownCap w (len + rows.length) cap e) w.drew.heap.size ob.s (by rw [← hh.mem.len]; simp) (grown_ge _ _ _ _)
        ⟨_, _, more_new _ _, by
          have hge := grown_ge w (len + rows.length) cap e
          simp only [Array.size_append, List.size_toArray, List.length_append, g1, o1, hD, hzs]
          rw [Nat.zero_add, ← Nat.add_mul, ← Nat.add_mul]
          exact Nat.mul_le_mul_right _ (by omega)⟩
      simpa using this
    · rw [put_objs]
      intro b1 hb1 hr1
      refine rmB_more (w := w.drew) (ob := ⟨ob.s, ob.rows.take len ++ rows⟩) hh.mem.len b1 hb1 ?_
      obtain ⟨j, y, s1, f1, f2, f3⟩ := hr1
      refine ⟨j, y, s1, f1, ?_, f3⟩
      rw [← hset, List.getElem?_set] at f2
      split at f2
      · first
          | cases f2
          | (split at f2 <;> cases f2)
      · exact f2
  · -- there is room
    have hC : len * i.size + news.length ≤ C.size := by
      rw [g1, h1, ← Nat.add_mul]
      exact Nat.le_trans (Nat.mul_le_mul_right _ hg) hcap
    have hrun := run_app_room w t tx o.type e e' u i hu htx hi b len cap C hb ⟨b2, off, none⟩ rows.length c news (by rw [g1, h1]) g2 hnews1 hg hC
    rw [h1] at hrun hC
    have hm := hh.inplace (w' := w.setRow b (C.toList.take (len * ob.s) ++ news ++ C.toList.drop (len * ob.s + news.length)).toArray) hk hmay hT (ob.rows.take len ++ rows) C
      (C.toList.take (len * ob.s) ++ news ++ C.toList.drop (len * ob.s + news.length)).toArray u hb (setRow_heap w b C _ u _ hb) (by simp; omega) (fun j hj => setRow_other w b j _ hj) (size_setRow w b _) rfl rfl rfl hrows2
      (fun r row hrow c q hq => by
        have hcl : c < ob.s := by rw [← (hrows2 row (List.mem_of_getElem? hrow)).1]; exact lt_of_some hq
        have htk : (C.toList.take (len * ob.s)).length = len * ob.s := by simp; omega
        rcases split r row hrow c q hq with ⟨g, v, f1, f2⟩ | ⟨g, v, f1, f2⟩
        · refine ⟨v, ?_, f2⟩
          have hlt : r * ob.s + c < len * ob.s := by
            have : r * ob.s + ob.s ≤ len * ob.s := by rw [← Nat.succ_mul]; exact Nat.mul_le_mul_right _ g
            omega
          rw [List.getElem?_toArray, List.append_assoc, List.getElem?_append_left (by omega), List.getElem?_take, if_pos hlt]
          simpa using f1
        · refine ⟨v, ?_, f2⟩
          have hge : len * ob.s ≤ r * ob.s := Nat.mul_le_mul_right _ g
          have hlt := lt_of_get f1
          rw [List.getElem?_toArray, List.append_assoc, List.getElem?_append_right (by omega), htk, show r * ob.s + c - len * ob.s = (r - len) * ob.s + c by rw [Nat.sub_mul]; omega,
            List.getElem?_append_left hlt]
          exact f1)
    obtain ⟨m1, m2⟩ := hm
    obtain ⟨m3, m4⟩ := m2 rm hrm
    unfold Oper.wp
    rw [run_of_append ho (by rw [e1, e2]; exact hrun)]
    refine ⟨_, _, h, m1.put (v := .sl σ.objs.length 0 (len + rows.length)) ?_ (dstOK_spec hd), m3, ?_⟩
    · have := Rep.sl (w := w.setRow b (C.toList.take (len * ob.s) ++ news ++ C.toList.drop (len * ob.s + news.length)).toArray) (L := Live X.A (T ++ [(b, ob.s)]) (σ.objs.set k none ++ [some ⟨ob.s, ob.rows.take len ++ rows⟩])) (T := T ++ [(b, ob.s)])
        σ.objs.length 0 (len + rows.length) cap b ob.s (by rw [← hh.mem.len]; simp) hg
        ⟨_, _, setRow_heap w b C _ u _ hb, by rw [Nat.zero_add]; simp; omega⟩
      simpa using this
    · rw [put_objs]
      exact fun b1 _ hb1 => m4 b1 hb1

end Go.Proofs.Ytohchoelhnipmaa.Q
