/- Operations that make objects, or write them. -/
import Derived.Test.YtohchoelhnipmaaQRegion
namespace Go.Proofs.Ytohchoelhnipmaa.Q
open Go Go.RowKit
set_option linter.unusedSimpArgs false
set_option linter.unusedVariables false

variable {P : Program} {σ : St} {K : Ex → St → Prop}

theorem one_of_rep {w : World} {L : Nat → Prop} {T : Tab} {q : V} {v : Value} (h : Rep w L T q v) (hq : q.one = true) : v.oneCell' = true := by
  cases h with
  | pure h => cases h with
    | sc v => cases v <;> first | rfl | simp [V.one] at hq
    | nil => rfl
    | ro => rfl
    | pro => rfl
  | ptr => rfl
  | sl => rfl
  | fn => rfl
  | agg => simp [V.one] at hq
  | tup => simp [V.one] at hq

theorem cells_of_rep {w : World} {L : Nat → Prop} {T : Tab} {q : V} {v : Value} (h : Rep w L T q v) (hq : q.one = true) : v.cells = #[v] := by
  have := one_of_rep h hq
  cases v <;> first | rfl | simp [Value.oneCell'] at this

theorem lt_tab {T : Tab} {k : Nat} {p : Nat × Nat} (h : T[k]? = some p) : k < T.length := by
  rcases Nat.lt_or_ge k T.length with g | g
  · exact g
  · rw [List.getElem?_eq_none g] at h; cases h

theorem lt_heap {w : World} {b : Nat} {o : Obj} (h : w.heap[b]? = some o) : b < w.heap.size := by
  rcases Nat.lt_or_ge b w.heap.size with g | g
  · exact g
  · rw [Array.getElem?_eq_none g] at h; cases h

/-- The world with a block more. -/
def more (w : World) (o : Obj) : World := { w with heap := w.heap.push o }

theorem more_old (w : World) (o : Obj) {b : Nat} (h : b < w.heap.size) : (more w o).heap[b]? = w.heap[b]? := by
  show (w.heap.push o)[b]? = w.heap[b]?
  rw [Array.getElem?_push, if_neg (by omega)]

theorem more_new (w : World) (o : Obj) : (more w o).heap[w.heap.size]? = some o := by
  show (w.heap.push o)[w.heap.size]? = some o
  rw [Array.getElem?_push, if_pos rfl]
theorem more_size (w : World) (o : Obj) : (more w o).heap.size = w.heap.size + 1 := by
  show (w.heap.push o).size = w.heap.size + 1
  simp

/-- An object more. -/
theorem HoldsT.new {X : Ctx} {T : Tab} {a : Act} {w : World} (h : HoldsT X T σ a w) (ob : Ob) (C : Array Value) (t : TypeId)
    (hrows : ∀ row ∈ ob.rows, row.length = ob.s ∧ ∀ q ∈ row, q.one = true)
    (hC : ∀ (r : Nat) (row : List V), ob.rows[r]? = some row → ∀ (c : Nat) (q : V), row[c]? = some q → ∃ v, C[r * ob.s + c]? = some v ∧ Rep w (Live X.A T σ.objs) T q v) :
    HoldsT X (T ++ [(w.heap.size, ob.s)]) { σ with objs := σ.objs ++ [some ob] } a (more w (.cells C t (0, 0))) ∧
    (∀ (q : V) (v : Value), Rep w (Live X.A T σ.objs) T q v → Rep (more w (.cells C t (0, 0))) (Live X.A (T ++ [(w.heap.size, ob.s)]) (σ.objs ++ [some ob])) (T ++ [(w.heap.size, ob.s)]) q v) := by
  have hT : ∀ (k : Nat) (p : Nat × Nat), T[k]? = some p → (T ++ [(w.heap.size, ob.s)])[k]? = some p := fun k p hk => by
    rw [List.getElem?_append_left (lt_tab hk)]; exact hk
  have hlen := h.mem.len
  have hlive : ∀ b, b < w.heap.size → ¬ Live X.A T σ.objs b → ¬ Live X.A (T ++ [(w.heap.size, ob.s)]) (σ.objs ++ [some ob]) b := by
    rintro b hb hn (hA | ⟨k, ob', s, h1, h2⟩)
    · exact hn (.inl hA)
    · rcases Nat.lt_or_ge k T.length with g | g
      · rw [List.getElem?_append_left (by omega)] at h1
        rw [List.getElem?_append_left g] at h2
        exact hn (.inr ⟨k, ob', s, h1, h2⟩)
      · have hk := lt_tab h2
        simp at hk
        have : k = T.length := by omega
        subst this
        simp at h2
        omega
  have hrep : ∀ (q : V) (v : Value), Rep w (Live X.A T σ.objs) T q v → Rep (more w (.cells C t (0, 0))) (Live X.A (T ++ [(w.heap.size, ob.s)]) (σ.objs ++ [some ob])) (T ++ [(w.heap.size, ob.s)]) q v :=
    fun q v hq => hq.later (by rw [more_size]; omega) (fun b hb _ => more_old w _ hb) hlive (fun b C' t' hb => ⟨C', by rw [more_old w _ (lt_heap hb)]; exact hb, rfl⟩) hT
  refine ⟨⟨fun k p hk => hT k p (h.pre k p hk), ⟨by simp [hlen], ?_, ?_, fun b hb => by rw [more_size]; have := h.mem.avoid b hb; omega⟩, fun t v hv => hrep _ _ (h.tmp t v hv), h.size, h.defers, ?_, ?_, h.avoid0, h.hm, h.hmods⟩, hrep⟩
  · intro k x hk
    rcases Nat.lt_or_ge k σ.objs.length with g | g
    · have hk' : σ.objs[k]? = some (some x) := by rw [← List.getElem?_append_left g (l₂ := [some ob])]; exact hk
      obtain ⟨b, h1, h2, C', t', h3, h4, h5⟩ := h.mem.obj k x hk'
      refine ⟨b, hT _ _ h1, h2, C', t', by rw [more_old w _ (lt_heap h3)]; exact h3, h4, fun r row hr c q hq => ?_⟩
      obtain ⟨v, h6, h7⟩ := h5 r row hr c q hq
      exact ⟨v, h6, hrep _ _ h7⟩
    · have hk2 : k < (σ.objs ++ [some ob]).length := by
        rcases Nat.lt_or_ge k (σ.objs ++ [some ob]).length with g' | g'
        · exact g'
        · rw [List.getElem?_eq_none g'] at hk; cases hk
      simp at hk2
      have : k = σ.objs.length := by omega
      subst this
      simp at hk
      subst hk
      refine ⟨w.heap.size, by rw [← hlen]; simp, fun hA => absurd (h.mem.avoid _ hA) (by omega), C, t, more_new w _, hrows, fun r row hr c q hq => ?_⟩
      obtain ⟨v, h6, h7⟩ := hC r row hr c q hq
      exact ⟨v, h6, hrep _ _ h7⟩
  · intro i j x y b s s' hi hj hbi hbj
    have old : ∀ k z s, k < σ.objs.length → (σ.objs ++ [some ob])[k]? = some (some z) → (T ++ [(w.heap.size, ob.s)])[k]? = some (b, s) → b < w.heap.size ∧ σ.objs[k]? = some (some z) ∧ T[k]? = some (b, s) := by
      intro k z s hk h1 h2
      rw [List.getElem?_append_left hk] at h1
      rw [List.getElem?_append_left (by omega)] at h2
      obtain ⟨b', g1, g2, C', t', g3, _⟩ := h.mem.obj k z h1
      rw [h2] at g1
      cases g1
      exact ⟨lt_heap g3, h1, h2⟩
    have new : ∀ k s, σ.objs.length ≤ k → (T ++ [(w.heap.size, ob.s)])[k]? = some (b, s) → b = w.heap.size ∧ k = T.length := by
      intro k s hk h2
      have h3 := lt_tab h2
      simp at h3
      have : k = T.length := by omega
      subst this
      simp at h2
      exact ⟨h2.1.symm, rfl⟩
    rcases Nat.lt_or_ge i σ.objs.length with gi | gi <;> rcases Nat.lt_or_ge j σ.objs.length with gj | gj
    · obtain ⟨_, a1, a2⟩ := old i x s gi hi hbi
      obtain ⟨_, b1, b2⟩ := old j y s' gj hj hbj
      exact h.mem.inj i j x y b s s' a1 b1 a2 b2
    · have := (old i x s gi hi hbi).1; have := (new j s' gj hbj).1; omega
    · have := (old j y s' gj hj hbj).1; have := (new i s gi hbi).1; omega
    · have := (new i s gi hbi).2; have := (new j s' gj hbj).2; omega
  · have hk := h.keep
    refine ⟨hk.os, hk.tape, hk.output, by rw [more_size]; have := hk.size; omega, fun b hb hn => ?_, fun b C' t' hb => ?_⟩
    · rw [more_old w _ (Nat.lt_of_lt_of_le hb hk.size)]; exact hk.block b hb hn
    · obtain ⟨C1, h1, h2⟩ := hk.shape b C' t' hb
      exact ⟨C1, by rw [more_old w _ (lt_heap h1)]; exact h1, h2⟩
  · intro k b s hk hb
    rcases Nat.lt_or_ge k T.length with g | g
    · rw [List.getElem?_append_left g] at hb
      exact h.fresh k b s hk hb
    · have h3 := lt_tab hb
      simp at h3
      have : k = T.length := by omega
      subst this
      simp at hb
      have := h.keep.size
      exact .inl (by omega)

theorem stab_more {N : Nat → Prop} (w : World) (o : Obj) : Stab N w (more w o) := ⟨by rw [more_size]; omega, fun b hb _ => more_old w o hb⟩

theorem rmB_more {T : Tab} {objs : Objs} {rm : List Nat} {ob : Ob} {w : World} (hlen : T.length = objs.length) (b : Nat) (hb : b < w.heap.size)
    (h : rmB (T ++ [(w.heap.size, ob.s)]) (objs ++ [some ob]) rm b) : rmB T objs rm b := by
  obtain ⟨k, x, s, h1, h2, h3⟩ := h
  rcases Nat.lt_or_ge k T.length with g | g
  · rw [List.getElem?_append_left (by omega)] at h2
    rw [List.getElem?_append_left g] at h3
    exact ⟨k, x, s, h1, h2, h3⟩
  · have h4 := lt_tab h3
    simp at h4
    have : k = T.length := by omega
    subst this
    simp at h3
    omega

/-- What a value's cells are. -/
def cellsV : V → List V
  | .agg l => l
  | q => [q]

theorem cellsV_rep {w : World} {L : Nat → Prop} {T : Tab} {q : V} {v : Value} (h : Rep w L T q v) (hq : (cellsV q).all V.one = true) :
    v.cells.size = (cellsV q).length ∧ ∀ (i : Nat) (p : V), (cellsV q)[i]? = some p → ∃ x, v.cells[i]? = some x ∧ Rep w L T p x := by
  by_cases ha : ∃ l, q = .agg l
  · obtain ⟨l, rfl⟩ := ha
    obtain ⟨vs, rfl, hs, hr⟩ := rep_agg h
    refine ⟨hs, fun i p hp => ?_⟩
    obtain ⟨y, hy⟩ : ∃ y, vs[i]? = some y := ⟨_, Array.getElem?_eq_getElem (by have := lt_of_some hp; simp [cellsV] at this; omega)⟩
    have := hr i p hp
    rw [getD_of hy] at this
    exact ⟨y, hy, this⟩
  · have hc : cellsV q = [q] := by cases q <;> first | rfl | exact absurd ⟨_, rfl⟩ ha
    rw [hc] at hq ⊢
    simp at hq
    rw [cells_of_rep h hq]
    refine ⟨rfl, fun i p hp => ?_⟩
    cases i with
    | zero => simp at hp; subst hp; exact ⟨v, rfl, h⟩
    | succ i => simp at hp

/-- The object that a row of cells makes. -/
def boxOb (l : List V) : Ob := ⟨l.length, [l]⟩

theorem qo_box {rm : List Nat} {o : Oper} {t : TypeId} {x : Operand} {q : V} {N : St → Prop} (ho : o.op = .box t x) (hx : evalV σ x = some q) (hq : (cellsV q).all V.one = true) (hd : dstOK o σ = true)
    (h : N (({ σ with objs := σ.objs ++ [some (boxOb (cellsV q))] } : St).put o.dst (.ptr σ.objs.length 0 0))) : QO P rm o σ N K := by
  intro X T a w hh
  have hr := eval_rep hh hx
  obtain ⟨h1, h2⟩ := cellsV_rep hr hq
  obtain ⟨g1, g2⟩ := hh.new (boxOb (cellsV q)) (a.eval x).cells t (fun row hrow => by
      simp [boxOb] at hrow; subst hrow
      exact ⟨rfl, fun p hp => by simpa using (List.all_eq_true.mp hq p hp)⟩)
    (fun r row hrow c p hp => by
      cases r with
      | zero => simp [boxOb] at hrow; subst hrow; simpa [boxOb] using h2 c p hp
      | succ r => simp [boxOb] at hrow)
  unfold Oper.wp
  have hrun : (execOp a.eval o).run P w = .ok (.value (.pointer (some ⟨w.heap.size, 0, none⟩))) (more w (.cells (a.eval x).cells t (0, 0))) := by
    simp [execOp, ho, Instr.box, newVar, newRow, more]
  rw [hrun]
  refine ⟨_, _, h, g1.put (v := .ptr σ.objs.length 0 0) ?_ (dstOK_spec hd), stab_more w _, ?_⟩
  · have := Rep.ptr (w := more w (.cells (a.eval x).cells t (0, 0))) (L := Live X.A (T ++ [(w.heap.size, (boxOb (cellsV q)).s)]) (σ.objs ++ [some (boxOb (cellsV q))])) (T := T ++ [(w.heap.size, (boxOb (cellsV q)).s)])
      σ.objs.length 0 0 w.heap.size (boxOb (cellsV q)).s (by rw [← hh.mem.len]; simp)
    simpa using this
  · rw [put_objs]
    exact fun b hb => rmB_more hh.mem.len b hb

theorem qo_alloc {rm : List Nat} {o : Oper} {t : TypeId} {ti : TI} {N : St → Prop} (ho : o.op = .alloc t) (ht : TyOK P t ti) (hz : (ti.zero.map V.sc).all V.one = true) (hd : dstOK o σ = true)
    (h : N (({ σ with objs := σ.objs ++ [some (boxOb (ti.zero.map V.sc))] } : St).put o.dst (.ptr σ.objs.length 0 0))) : QO P rm o σ N K := by
  intro X T a w hh
  obtain ⟨z, hz1, hz2⟩ := ht.zeroValue
  obtain ⟨g1, g2⟩ := hh.new (boxOb (ti.zero.map V.sc)) z.cells t (fun row hrow => by
      simp only [boxOb, List.mem_singleton] at hrow; subst hrow
      exact ⟨rfl, fun p hp => List.all_eq_true.mp hz p hp⟩)
    (fun r row hrow c p hp => by
      cases r with
      | zero =>
        simp only [boxOb, List.getElem?_cons_zero, Option.some.injEq] at hrow; subst hrow
        rw [List.getElem?_map, ← hz1] at hp
        simp only [Option.map_eq_some_iff] at hp
        obtain ⟨v, hv, rfl⟩ := hp
        exact ⟨v, by simpa using hv, .pure (.sc v)⟩
      | succ r => simp [boxOb] at hrow)
  unfold Oper.wp
  have hrun : (execOp a.eval o).run P w = .ok (.value (.pointer (some ⟨w.heap.size, 0, none⟩))) (more w (.cells z.cells t (0, 0))) := by
    simp [execOp, ho, Instr.alloc, newVar, newRow, more, hz2]
  rw [hrun]
  refine ⟨_, _, h, g1.put (v := .ptr σ.objs.length 0 0) ?_ (dstOK_spec hd), stab_more w _, ?_⟩
  · have := Rep.ptr (w := more w (.cells z.cells t (0, 0))) (L := Live X.A (T ++ [(w.heap.size, (boxOb (ti.zero.map V.sc)).s)]) (σ.objs ++ [some (boxOb (ti.zero.map V.sc))])) (T := T ++ [(w.heap.size, (boxOb (ti.zero.map V.sc)).s)])
      σ.objs.length 0 0 w.heap.size (boxOb (ti.zero.map V.sc)).s (by rw [← hh.mem.len]; simp)
    simpa using this
  · rw [put_objs]
    exact fun b hb => rmB_more hh.mem.len b hb

end Go.Proofs.Ytohchoelhnipmaa.Q
