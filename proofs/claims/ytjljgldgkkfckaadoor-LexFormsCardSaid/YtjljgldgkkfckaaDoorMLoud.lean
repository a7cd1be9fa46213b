/- What makes objects, what writes them. -/
import Derived.Test.YtjljgldgkkfckaaDoorMCode
namespace Go.Proofs.YtjljgldgkkfckaaDoor.M
open Go Go.RowKit
set_option linter.unusedSimpArgs false
set_option linter.unusedVariables false

variable {ρ : Nat → Value} {P : Program} {σ : St} {K : Ex → St → Prop}

theorem one_of_rep {w : World} {L : Nat → Prop} {T : Tab} {q : V} {v : Value} (h : Rep ρ w L T q v) (hq : q.one = true) : v.oneCell' = true := by
  cases h with
  | pure h => cases h with
    | sc v => cases v <;> first | rfl | simp [V.one] at hq
    | un => simp [V.one] at hq
    | sym => simp [V.one] at hq
    | _ => rfl
  | ptr => rfl
  | sl => rfl
  | fn => rfl
  | ifc => rfl
  | agg => simp [V.one] at hq
  | tup => simp [V.one] at hq

theorem cells_of_rep {w : World} {L : Nat → Prop} {T : Tab} {q : V} {v : Value} (h : Rep ρ w L T q v) (hq : q.one = true) : v.cells = #[v] := by
  have := one_of_rep h hq
  cases v <;> first | rfl | simp [Value.oneCell'] at this

theorem lt_heap {w : World} {b : Nat} {o : Obj} (h : w.heap[b]? = some o) : b < w.heap.size := by
  rcases Nat.lt_or_ge b w.heap.size with g | g
  · exact g
  · rw [Array.getElem?_eq_none g] at h; cases h

/-- What a value's cells are. -/
def cellsV : V → List V
  | .agg l => l
  | q => [q]

theorem cellsV_rep {w : World} {L : Nat → Prop} {T : Tab} {q : V} {v : Value} (h : Rep ρ w L T q v) (hq : (cellsV q).all V.one = true) :
    v.cells.size = (cellsV q).length ∧ ∀ (i : Nat) (p : V), (cellsV q)[i]? = some p → ∃ x, v.cells[i]? = some x ∧ Rep ρ w L T p x := by
  by_cases ha : ∃ l, q = .agg l
  · obtain ⟨l, rfl⟩ := ha
    obtain ⟨vs, rfl, hs, hr⟩ := rep_agg h
    exact ⟨hs, fun i p hp => agg_at hs hr i p hp⟩
  · have hc : cellsV q = [q] := by cases q <;> first | rfl | exact absurd ⟨_, rfl⟩ ha
    rw [hc] at hq ⊢
    simp at hq
    rw [cells_of_rep h hq]
    refine ⟨rfl, fun i p hp => ?_⟩
    cases i with
    | zero => simp at hp; subst hp; exact ⟨v, rfl, h⟩
    | succ i => simp at hp

/-! ### A block more -/

/-- The world with a block more. -/
def more (w : World) (o : Obj) : World := { w with heap := w.heap.push o }

theorem more_old (w : World) (o : Obj) {b : Nat} (h : b < w.heap.size) : (more w o).heap[b]? = w.heap[b]? := by
  show (w.heap.push o)[b]? = w.heap[b]?
  rw [Array.getElem?_push, if_neg (by omega)]
theorem more_new (w : World) (o : Obj) : (more w o).heap[w.heap.size]? = some o := by
  show (w.heap.push o)[w.heap.size]? = some o
  rw [Array.getElem?_push, if_pos rfl]
theorem more_size (w : World) (o : Obj) : (more w o).heap.size = w.heap.size + 1 := by
  show (w.heap.push o).size = w.heap.size + 1
  simp

theorem stab_more {N : Nat → Prop} (w : World) (o : Obj) : Stab N w (more w o) := ⟨by rw [more_size]; omega, fun b hb _ => more_old w o hb⟩

def Tab.put (T : Tab) (k : Nat) (p : Pl) : Tab := fun j => if j = k then some p else T j
def Objs.put (O : Objs) (k : Nat) (ob : Option Ob) : Objs := fun j => if j = k then ob else O j

theorem rep_lt {w : World} {A : Nat → Prop} {T : Tab} {objs : Objs} (hm : HoldsM ρ w A T objs) {b : Nat} (h : LiveO T objs b) : b < w.heap.size := by
  obtain ⟨k, ob, p, h1, h2, rfl⟩ := h
  obtain ⟨p', h3, _, _, C, t, h4, _⟩ := hm.obj k ob h1
  rw [h2] at h3
  cases h3
  exact lt_heap h4

/-- The world drew once more: nothing else. -/
theorem HoldsT.congr {X : Ctx} {T : Tab} {a : Act} {w w' : World} (h : HoldsT ρ X T σ a w) (hh : w'.heap = w.heap) (ho : w'.os = w.os) (ht : w'.tape = w.tape) (hout : w'.output = w.output) : HoldsT ρ X T σ a w' := by
  have hrep : ∀ (q : V) (v : Value), Rep ρ w (Live X.A T σ.objs) T q v → Rep ρ w' (Live X.A T σ.objs) T q v := fun q v hr =>
    hr.later (by rw [hh]; exact Nat.le_refl _) (fun b _ _ => by rw [hh]) (fun _ _ h => h) (fun b C t fr hb => ⟨C, fr, by rw [hh]; exact hb, rfl⟩) (fun _ _ h => h)
  have hdef : ∀ (l : List V) (ds : List Deferred), RepDefs ρ w (Live X.A T σ.objs) T l ds → RepDefs ρ w' (Live X.A T σ.objs) T l ds := by
    intro l
    induction l with
    | nil => intro ds hd; cases ds <;> exact hd
    | cons q l ih =>
      intro ds hd
      cases ds with
      | nil => exact hd
      | cons d ds =>
        obtain ⟨⟨f, caps, vs, h1, h2, h3⟩, h4⟩ := hd
        exact ⟨⟨f, caps, vs, h1, h2, hrep _ _ h3⟩, ih ds h4⟩
  refine ⟨h.pre, ⟨fun b hb => by rw [hh]; exact h.mem.avoid b hb, fun k p hk => by rw [hh]; exact h.mem.low k p hk, ?_, h.mem.inj, h.mem.glob.later (by rw [hh]; exact Nat.le_refl _) (fun b _ _ => by rw [hh]) (fun b _ hn => hn)⟩, h.top, fun t => hrep _ _ (h.tmp t), h.size, hdef _ _ h.defers,
    ⟨ho.trans h.keep.os, ht.trans h.keep.tape, hout.trans h.keep.output, by rw [hh]; exact h.keep.size, fun b hb hn => by rw [hh]; exact h.keep.block b hb hn, fun b C t fr hb => by rw [hh]; exact h.keep.shape b C t fr hb⟩,
    h.fresh, h.old, h.stay, fun k r c p h1 h2 h3 h4 => (cell_of_heap (w := w) (by rw [hh])).trans (h.pc k r c p h1 h2 h3 h4), h.hforb, h.hks⟩
  intro k ob hk
  obtain ⟨p, h1, hA, h2, C, t, h3, h4⟩ := h.mem.obj k ob hk
  refine ⟨p, h1, hA, h2, C, t, by rw [hh]; exact h3, fun r row hr => ?_⟩
  obtain ⟨g1, g2, g3⟩ := h4 r row hr
  refine ⟨g1, g2, fun c q hq => ?_⟩
  obtain ⟨v, h6, h7⟩ := g3 c q hq
  exact ⟨v, h6, hrep _ _ h7⟩

theorem RepDefs.map {w w' : World} {L L' : Nat → Prop} {T T' : Tab} (hr : ∀ q v, Rep ρ w L T q v → Rep ρ w' L' T' q v) : ∀ {l : List V} {ds : List Deferred}, RepDefs ρ w L T l ds → RepDefs ρ w' L' T' l ds
  | [], [], h => h
  | [], _ :: _, h => h.elim
  | _ :: _, [], h => h.elim
  | q :: l, d :: ds, ⟨⟨f, caps, vs, h1, h2, h3⟩, h4⟩ => ⟨⟨f, caps, vs, h1, h2, hr _ _ h3⟩, RepDefs.map hr h4⟩

/-- An object more. -/
theorem HoldsT.new {X : Ctx} {T : Tab} {a : Act} {w : World} (h : HoldsT ρ X T σ a w) (ob : Ob) (C : Array Value) (t : TypeId)
    (hC : ∀ (r : Nat) (row : List V), ob.row r = some row → row.length = ob.s ∧ (∀ q ∈ row, q.one = true) ∧ ∀ (c : Nat) (q : V), row[c]? = some q → ∃ v, C[r * ob.s + c]? = some v ∧ Rep ρ w (Live X.A T σ.objs) T q v) :
    HoldsT ρ X (T.put σ.next ⟨w.heap.size, 0, ob.s⟩) { σ with objs := Objs.put σ.objs σ.next (some ob), next := σ.next + 1 } a (more w (.cells C t (0, 0))) ∧
    (∀ (q : V) (v : Value), Rep ρ w (Live X.A T σ.objs) T q v → Rep ρ (more w (.cells C t (0, 0))) (Live X.A (T.put σ.next ⟨w.heap.size, 0, ob.s⟩) (Objs.put σ.objs σ.next (some ob))) (T.put σ.next ⟨w.heap.size, 0, ob.s⟩) q v) ∧
    ∀ D : CellP, StepT D T σ.objs w (T.put σ.next ⟨w.heap.size, 0, ob.s⟩) (Objs.put σ.objs σ.next (some ob)) (more w (.cells C t (0, 0))) := by
  obtain ⟨htop1, htop2⟩ := h.top σ.next (Nat.le_refl _)
  have hT : ∀ (k : Nat) (p : Pl), T k = some p → (T.put σ.next ⟨w.heap.size, 0, ob.s⟩) k = some p := fun k p hk => by
    unfold Tab.put
    rw [if_neg (fun e => by subst e; rw [htop1] at hk; cases hk)]
    exact hk
  have hliveO : ∀ b, b < w.heap.size → LiveO (T.put σ.next ⟨w.heap.size, 0, ob.s⟩) (Objs.put σ.objs σ.next (some ob)) b → LiveO T σ.objs b := by
    rintro b hb ⟨k, ob', p, h1, h2, h3⟩
    unfold Objs.put at h1
    unfold Tab.put at h2
    by_cases e : k = σ.next
    · rw [if_pos e] at h2
      cases h2
      simp only at h3
      omega
    · rw [if_neg e] at h1 h2
      exact ⟨k, ob', p, h1, h2, h3⟩
  have hlive : ∀ b, b < w.heap.size → Live X.A (T.put σ.next ⟨w.heap.size, 0, ob.s⟩) (Objs.put σ.objs σ.next (some ob)) b → Live X.A T σ.objs b := fun b hb h => h.imp id (hliveO b hb)
  have hrep : ∀ (q : V) (v : Value), Rep ρ w (Live X.A T σ.objs) T q v → Rep ρ (more w (.cells C t (0, 0))) (Live X.A (T.put σ.next ⟨w.heap.size, 0, ob.s⟩) (Objs.put σ.objs σ.next (some ob))) (T.put σ.next ⟨w.heap.size, 0, ob.s⟩) q v :=
    fun q v hq => hq.later (by rw [more_size]; omega) (fun b hb _ => more_old w _ hb) (fun b hb hn hl => hn (hlive b hb hl)) (fun b C' t' fr hb => ⟨C', fr, by rw [more_old w _ (lt_heap hb)]; exact hb, rfl⟩) hT
  refine ⟨⟨fun k p hk => hT k p (h.pre k p hk), ⟨fun b hb => by rw [more_size]; have := h.mem.avoid b hb; omega, fun k p hk => by
    rw [more_size]
    unfold Tab.put at hk
    split at hk
    · cases hk; simp
    · have := h.mem.low k p hk; omega, ?_, ?_, h.mem.glob.later (by rw [more_size]; omega) (fun b hb _ => more_old w _ hb) (fun b hb hn hl => hn (hlive b hb hl))⟩, ?_, fun t => hrep _ _ (h.tmp t), h.size, h.defers.map hrep, ?_, ?_, ?_, ?_, h.pc.trans' (fun _ _ _ h => h) h.stay h.pre (SameC.of_blocks h.mem.low fun b hb => more_old w _ hb), h.hforb, h.hks⟩, hrep, fun D => ⟨stab_more w _, SameC.of_blocks h.mem.low fun b hb => more_old w _ hb, hT, ?_, hliveO, ?_⟩⟩
  · intro k x hk
    have hk' : Objs.put σ.objs σ.next (some ob) k = some x := hk
    unfold Objs.put at hk'
    by_cases e : k = σ.next
    · rw [if_pos e] at hk'
      cases hk'
      refine ⟨⟨w.heap.size, 0, ob.s⟩, by unfold Tab.put; rw [if_pos e], fun hA => absurd (h.mem.avoid _ hA) (Nat.lt_irrefl _), rfl, C, t, more_new w _, fun r row hr => ?_⟩
      obtain ⟨g1, g2, g3⟩ := hC r row hr
      refine ⟨g1, g2, fun c q hq => ?_⟩
      obtain ⟨v, h6, h7⟩ := g3 c q hq
      exact ⟨v, by rw [Nat.zero_add]; exact h6, hrep _ _ h7⟩
    · rw [if_neg e] at hk'
      obtain ⟨p, h1, hA, h2, C', t', h3, h4⟩ := h.mem.obj k x hk'
      refine ⟨p, hT _ _ h1, hA, h2, C', t', by rw [more_old w _ (lt_heap h3)]; exact h3, fun r row hr => ?_⟩
      obtain ⟨g1, g2, g3⟩ := h4 r row hr
      refine ⟨g1, g2, fun c q hq => ?_⟩
      obtain ⟨v, h6, h7⟩ := g3 c q hq
      exact ⟨v, h6, hrep _ _ h7⟩
  · intro i j x y p q hi hj hpi hpj hb
    have hi' : Objs.put σ.objs σ.next (some ob) i = some x := hi
    have hj' : Objs.put σ.objs σ.next (some ob) j = some y := hj
    unfold Objs.put at hi' hj'
    unfold Tab.put at hpi hpj
    have low : ∀ (k : Nat) (z : Ob) (r : Pl), σ.objs k = some z → T k = some r → r.b < w.heap.size := fun k z r h1 h2 => rep_lt h.mem ⟨k, z, r, h1, h2, rfl⟩
    by_cases e1 : i = σ.next <;> by_cases e2 : j = σ.next
    · omega
    · rw [if_pos e1] at hpi
      rw [if_neg e2] at hj' hpj
      have := low j y q hj' hpj
      cases hpi
      simp only at hb
      omega
    · rw [if_pos e2] at hpj
      rw [if_neg e1] at hi' hpi
      have := low i x p hi' hpi
      cases hpj
      simp only at hb
      omega
    · rw [if_neg e1] at hi' hpi
      rw [if_neg e2] at hj' hpj
      exact h.mem.inj i j x y p q hi' hj' hpi hpj hb
  · intro k hk
    have hk : σ.next + 1 ≤ k := hk
    obtain ⟨g1, g2⟩ := h.top k (by omega)
    show (Tab.put T σ.next _) k = none ∧ Objs.put σ.objs σ.next (some ob) k = none
    unfold Tab.put Objs.put
    rw [if_neg (by omega), if_neg (by omega)]
    exact ⟨g1, g2⟩
  · have hk := h.keep
    refine ⟨hk.os, hk.tape, hk.output, by rw [more_size]; have := hk.size; omega, fun b hb hn => ?_, fun b C' t' fr hb => ?_⟩
    · rw [more_old w _ (Nat.lt_of_lt_of_le hb hk.size)]; exact hk.block b hb hn
    · obtain ⟨C1, f1, h1, h2⟩ := hk.shape b C' t' fr hb
      exact ⟨C1, f1, by rw [more_old w _ (lt_heap h1)]; exact h1, h2⟩
  · intro k p hk hp
    unfold Tab.put at hp
    by_cases e : k = σ.next
    · rw [if_pos e] at hp
      cases hp
      exact .inl h.keep.size
    · rw [if_neg e] at hp
      exact h.fresh k p hk hp
  · intro k h1 h2
    have h2' : Objs.put σ.objs σ.next (some ob) k ≠ none := h2
    unfold Objs.put at h2'
    by_cases e : k = σ.next
    · exfalso
      cases hx : X.T0 k with
      | none => exact h1 hx
      | some p =>
        have := h.pre k p hx
        rw [e, htop1] at this
        cases this
    · rw [if_neg e] at h2'
      exact h.old k h1 h2'
  · intro k r c h1 h2
    show Objs.put σ.objs σ.next (some ob) k ≠ none
    unfold Objs.put
    by_cases e : k = σ.next
    · rw [if_pos e]; simp
    · rw [if_neg e]; exact h.stay k r c h1 h2
  · intro k r c _ hk
    show Objs.put σ.objs σ.next (some ob) k ≠ none
    unfold Objs.put
    by_cases e : k = σ.next
    · rw [if_pos e]; simp
    · rw [if_neg e]; exact hk
  · intro k p hk hp
    unfold Tab.put at hk
    by_cases e : k = σ.next
    · rw [if_pos e] at hk
      cases hk
      simp only at hp
      omega
    · rw [if_neg e] at hk
      exact ⟨k, p, hk, rfl⟩

/-- An operation that makes one object, and yields its address, or a slice of it. -/
theorem qo_new {C : CellP} {o : Oper} {ob : Ob} {v : V} {N : St → Prop} (hd : dstOK o σ)
    (hrun : ∀ (X : Ctx) (T : Tab) (a : Act) (w : World), HoldsT ρ X T σ a w → ∃ (cs : Array Value) (t : TypeId) (x : Value) (w1 : World), w1.heap = w.heap ∧ w1.os = w.os ∧ w1.tape = w.tape ∧ w1.output = w.output ∧
      (execOp a.eval o).run P w = .ok (.value x) (more w1 (.cells cs t (0, 0))) ∧
      (∀ (r : Nat) (row : List V), ob.row r = some row → row.length = ob.s ∧ (∀ q ∈ row, q.one = true) ∧ ∀ (c : Nat) (q : V), row[c]? = some q → ∃ v, cs[r * ob.s + c]? = some v ∧ Rep ρ w (Live X.A T σ.objs) T q v) ∧
      ∀ (T' : Tab) (w' : World) (L : Nat → Prop), T' σ.next = some ⟨w.heap.size, 0, ob.s⟩ → w'.heap[w.heap.size]? = some (.cells cs t (0, 0)) → Rep ρ w' L T' v x)
    (h : N (({ σ with objs := Objs.put σ.objs σ.next (some ob), next := σ.next + 1 } : St).put o.dst v)) : QO ρ P C o σ N K := by
  intro X T a w hh
  obtain ⟨cs, t, x, w1, e1, e2, e3, e4, h1, h2, h3⟩ := hrun X T a w hh
  have hh1 := hh.congr e1 e2 e3 e4
  obtain ⟨g1, g2, g3⟩ := hh1.new ob cs t (fun r row hr => by
    obtain ⟨k1, k2, k3⟩ := h2 r row hr
    refine ⟨k1, k2, fun c q hq => ?_⟩
    obtain ⟨v, k4, k5⟩ := k3 c q hq
    exact ⟨v, k4, k5.later (by rw [e1]; exact Nat.le_refl _) (fun b _ _ => by rw [e1]) (fun _ _ h => h) (fun b C t fr hb => ⟨C, fr, by rw [e1]; exact hb, rfl⟩) (fun _ _ h => h)⟩)
  unfold Oper.wp
  rw [h1]
  refine ⟨_, _, h, g1.put (h3 _ _ _ (by unfold Tab.put; rw [if_pos rfl, e1]) (by rw [← e1]; exact more_new w1 _)) hd, ?_⟩
  rw [put_objs]
  have := g3 C
  refine ⟨?_, fun k r c p h1 h2 h3 h4 => (this.cells k r c p h1 h2 h3 h4).trans (cell_of_heap (w := w) (by rw [e1])), this.ext, this.stay, fun b hb => by rw [← e1] at hb; exact this.live b hb, fun k p hk hb => by rw [← e1] at hb; exact this.map k p hk hb⟩
  obtain ⟨s1, s2⟩ := this.stab
  exact ⟨by rw [← e1]; exact s1, fun b hb hn => by rw [← e1] at hb ⊢; exact s2 b hb hn⟩

/-- The object that a row of cells makes. -/
def boxOb (l : List V) : Ob := ⟨l.length, fun r => match r with | 0 => some l | _ + 1 => none⟩

theorem qo_box {C : CellP} {o : Oper} {t : TypeId} {x : Operand} {l : List V} {N : St → Prop} (ho : o.op = .box t x) (hl : cellsV (evalV σ x) = l) (hq : l.all V.one = true) (hd : dstOK o σ)
    (h : N (({ σ with objs := Objs.put σ.objs σ.next (some (boxOb l)), next := σ.next + 1 } : St).put o.dst (.ptr σ.next 0 0))) : QO ρ P C o σ N K := by
  refine qo_new hd ?_ h
  intro X T a w hh
  subst hl
  obtain ⟨h1, h2⟩ := cellsV_rep (eval_rep hh x) hq
  refine ⟨(a.eval x).cells, t, .pointer (some ⟨w.heap.size, 0, none⟩), w, rfl, rfl, rfl, rfl, by simp [execOp, ho, Instr.box, newVar, newRow, more], fun r row hr => ?_, fun T' w' L hT _ => ?_⟩
  · cases r with
    | succ r => cases hr
    | zero =>
      simp only [boxOb, Option.some.injEq] at hr
      subst hr
      exact ⟨rfl, fun p hp => List.all_eq_true.mp hq p hp, fun c p hp => by simpa using h2 c p hp⟩
  · have := Rep.ptr (ρ := ρ) (w := w') (L := L) (T := T') σ.next 0 0 _ hT
    simpa using this

theorem qo_alloc {C : CellP} {o : Oper} {t : TypeId} {ti : TI} {l : List V} {N : St → Prop} (ho : o.op = .alloc t) (ht : TyOK P t ti) (hl : ti.zero.map cv = l) (hz : l.all V.one = true) (hd : dstOK o σ)
    (h : N (({ σ with objs := Objs.put σ.objs σ.next (some (boxOb l)), next := σ.next + 1 } : St).put o.dst (.ptr σ.next 0 0))) : QO ρ P C o σ N K := by
  refine qo_new hd ?_ h
  intro X T a w hh
  subst hl
  obtain ⟨z, hz1, hz2⟩ := ht.zeroValue
  refine ⟨z.cells, t, .pointer (some ⟨w.heap.size, 0, none⟩), w, rfl, rfl, rfl, rfl, by simp [execOp, ho, Instr.alloc, newVar, newRow, more, hz2], fun r row hr => ?_, fun T' w' L hT _ => ?_⟩
  · cases r with
    | succ r => cases hr
    | zero =>
      simp only [boxOb, Option.some.injEq] at hr
      subst hr
      refine ⟨rfl, fun p hp => List.all_eq_true.mp hz p hp, fun c p hp => ?_⟩
      rw [List.getElem?_map, ← hz1] at hp
      simp only [Option.map_eq_some_iff] at hp
      obtain ⟨v, hv, rfl⟩ := hp
      exact ⟨v, by simpa using hv, rep_cv _ _ _ v⟩
  · have := Rep.ptr (ρ := ρ) (w := w') (L := L) (T := T') σ.next 0 0 _ hT
    simpa using this

/-! ### A block that is written -/

/-- The world with other cells in a block. -/
def upd (w : World) (b : Nat) (C : Array Value) (t : TypeId) : World := { w with heap := w.heap.setIfInBounds b (.cells C t (0, 0)) }

theorem upd_same (w : World) {b : Nat} (C : Array Value) (t : TypeId) (hb : b < w.heap.size) : (upd w b C t).heap[b]? = some (.cells C t (0, 0)) := by
  show (w.heap.setIfInBounds b _)[b]? = _
  simp [hb]
theorem upd_other (w : World) {b b' : Nat} (C : Array Value) (t : TypeId) (hb : b' ≠ b) : (upd w b C t).heap[b']? = w.heap[b']? := by
  show (w.heap.setIfInBounds b _)[b']? = _
  rw [Array.getElem?_setIfInBounds_ne (Ne.symm hb)]
theorem upd_size (w : World) (b : Nat) (C : Array Value) (t : TypeId) : (upd w b C t).heap.size = w.heap.size := by
  show (w.heap.setIfInBounds b _).size = _
  simp

/-- Cells laid over cells from a place on. -/
def putA (C : Array Value) (off : Nat) : List Value → Array Value
  | [] => C
  | v :: vs => putA (C.setIfInBounds off v) (off + 1) vs

theorem putA_size (vs : List Value) : ∀ (C : Array Value) (off : Nat), (putA C off vs).size = C.size := by
  induction vs with
  | nil => intro C off; rfl
  | cons v vs ih => intro C off; rw [putA, ih]; simp

theorem putA_get (vs : List Value) : ∀ (C : Array Value) (off i : Nat), off + vs.length ≤ C.size → (putA C off vs)[i]? = if off ≤ i ∧ i < off + vs.length then vs[i - off]? else C[i]? := by
  induction vs with
  | nil => intro C off i _; rw [putA, if_neg (by simp only [List.length_nil]; omega)]
  | cons v vs ih =>
    intro C off i h
    simp only [List.length_cons] at h
    rw [putA, ih _ _ _ (by simp; omega)]
    by_cases h1 : i = off
    · subst h1
      rw [if_neg (by omega), if_pos (by simp)]
      have hlt : i < C.size := by omega
      simp [hlt]
    · by_cases h2 : off + 1 ≤ i ∧ i < off + 1 + vs.length
      · rw [if_pos h2, if_pos (by simp; omega)]
        rw [show i - off = (i - (off + 1)) + 1 by omega, List.getElem?_cons_succ]
      · rw [if_neg h2, if_neg (by simp; omega), Array.getElem?_setIfInBounds_ne (Ne.symm h1)]

theorem setCell_upd (w : World) {b off : Nat} (v : Value) {C : Array Value} {t : TypeId} (h : w.heap[b]? = some (.cells C t (0, 0))) : w.setCell ⟨b, off, none⟩ v = upd w b (C.setIfInBounds off v) t := by
  unfold World.setCell upd
  congr 1
  apply Array.ext_getElem?
  intro i
  rw [Array.getElem?_modify]
  by_cases e : b = i
  · subst e
    rw [if_pos rfl, h]
    have := lt_heap h
    simp [this]
  · rw [if_neg e, Array.getElem?_setIfInBounds_ne e]

theorem upd_upd (w : World) (b : Nat) (C C' : Array Value) (t : TypeId) : upd (upd w b C t) b C' t = upd w b C' t := by
  unfold upd
  simp

theorem run_storeCells (t : TypeId) (b off : Nat) : ∀ (vs : List Value) (i : Nat) (w : World) (C : Array Value), w.heap[b]? = some (.cells C t (0, 0)) → off + i + vs.length ≤ C.size → (∀ v ∈ vs, v.oneCell' = true) →
    (storeCells ⟨b, off, none⟩ vs i).run P w = .ok () (upd w b (putA C (off + i) vs) t)
  | [], i, w, C, h, _, _ => by
    have : upd w b C t = w := by
      unfold upd
      have : w.heap.setIfInBounds b (.cells C t (0, 0)) = w.heap := by
        apply Array.ext_getElem?
        intro j
        by_cases e : b = j
        · subst e; have := lt_heap h; simp [this]; rw [Array.getElem?_eq_getElem this] at h; exact (Option.some.inj h).symm
        · rw [Array.getElem?_setIfInBounds_ne e]
      rw [this]
    simp [storeCells, putA, this]
  | v :: vs, i, w, C, h, hl, h1 => by
    simp only [List.length_cons] at hl
    have hv := h1 v (by simp)
    have hc : ∃ z, w.cell? ⟨b, off + i, none⟩ = some z := by
      have : off + i < C.size := by omega
      exact ⟨C[off + i], by simp [World.cell?, h, this]⟩
    obtain ⟨z, hz⟩ := hc
    have hf : w.frozen? ⟨b, off + i, none⟩ = false := by simp [World.frozen?, h]
    have ih := run_storeCells t b off vs (i + 1) (upd w b (C.setIfInBounds (off + i) v) t) (C.setIfInBounds (off + i) v) (upd_same w _ _ (lt_heap h)) (by simp; omega) (fun x hx => h1 x (by simp [hx]))
    rw [upd_upd] at ih
    simp only [storeCells, add_at, Sem.run_bind, run_store, hv, hz, hf]
    simp only [Bool.false_eq_true, if_false, if_true, Result.andThen]
    rw [setCell_upd w v h, ih, putA]
    rfl

theorem cell_at {w : World} {b : Nat} {C : Array Value} {t : TypeId} (hb : w.heap[b]? = some (.cells C t (0, 0))) (off : Nat) : w.cell? ⟨b, off, none⟩ = C[off]? := by
  simp [World.cell?, hb]

/-- An object's block has other cells; the object is another one, perhaps by another number. -/
theorem HoldsT.repl {X : Ctx} {T : Tab} {a : Act} {w : World} (h : HoldsT ρ X T σ a w) {k k' : Nat} {ob ob' : Ob} {p p' : Pl} {C0 C1 : Array Value} {t : TypeId} (hk : σ.objs k = some ob) (hforb : ∀ r c, σ.forb k r c → k' = k ∧ (c < p.s → C1[p.o + (r * p.s + c)]? = C0[p.o + (r * p.s + c)]?)) (hT : T k = some p)
    (hb : w.heap[p.b]? = some (.cells C0 t (0, 0))) (hsz : C1.size = C0.size) (hk' : (k' = k ∧ p' = p) ∨ k' = σ.next) (hp' : p'.b = p.b) (hs' : p'.s = ob'.s)
    (hC : ∀ (r : Nat) (row : List V), ob'.row r = some row → row.length = ob'.s ∧ (∀ q ∈ row, q.one = true) ∧ ∀ (c : Nat) (q : V), row[c]? = some q → ∃ v, C1[p'.o + (r * p'.s + c)]? = some v ∧ Rep ρ w (Live X.A T σ.objs) T q v) :
    HoldsT ρ X (T.put k' p') { σ with objs := Objs.put (Objs.put σ.objs k none) k' (some ob'), next := if k' = k then σ.next else σ.next + 1 } a (upd w p.b C1 t) ∧
    (∀ (q : V) (v : Value), Rep ρ w (Live X.A T σ.objs) T q v → Rep ρ (upd w p.b C1 t) (Live X.A (T.put k' p') (Objs.put (Objs.put σ.objs k none) k' (some ob'))) (T.put k' p') q v) ∧
    ∀ D : CellP, (∀ r c, D k r c → k' = k ∧ (c < p.s → C1[p.o + (r * p.s + c)]? = C0[p.o + (r * p.s + c)]?)) → StepT D T σ.objs w (T.put k' p') (Objs.put (Objs.put σ.objs k none) k' (some ob')) (upd w p.b C1 t) := by
  obtain ⟨htop1, htop2⟩ := h.top σ.next (Nat.le_refl _)
  have hkn : k < σ.next := by
    rcases Nat.lt_or_ge k σ.next with g | g
    · exact g
    · rw [(h.top k g).2] at hk; cases hk
  have hblt := lt_heap hb
  have hkk : k' = k ∨ k' = σ.next := hk'.imp (·.1) id
  have hT' : ∀ (j : Nat) (q : Pl), T j = some q → (T.put k' p') j = some q := fun j q hj => by
    unfold Tab.put
    by_cases e : j = k'
    · rw [if_pos e]
      rcases hk' with ⟨e1, e2⟩ | e1
      · subst e1 e2 e; rw [hT] at hj; exact hj
      · rw [e, e1, htop1] at hj; cases hj
    · rw [if_neg e]; exact hj
  have hliveK : LiveO T σ.objs p.b := ⟨k, ob, p, hk, hT, rfl⟩
  have hnA : ¬ X.A p.b := by
    obtain ⟨q, f1, f2, _⟩ := h.mem.obj k ob hk
    rw [hT] at f1
    cases f1
    exact f2
  have hliveO : ∀ b, LiveO (T.put k' p') (Objs.put (Objs.put σ.objs k none) k' (some ob')) b → LiveO T σ.objs b := by
    rintro b ⟨j, x, q, h1, h2, h3⟩
    unfold Objs.put at h1
    unfold Tab.put at h2
    by_cases e : j = k'
    · rw [if_pos e] at h2
      cases h2
      rw [← h3, hp']
      exact hliveK
    · rw [if_neg e] at h1 h2
      by_cases e2 : j = k
      · rw [if_pos e2] at h1; cases h1
      · rw [if_neg e2] at h1
        exact ⟨j, x, q, h1, h2, h3⟩
  have hlive : ∀ b, Live X.A (T.put k' p') (Objs.put (Objs.put σ.objs k none) k' (some ob')) b → Live X.A T σ.objs b := fun b h => h.imp id (hliveO b)
  have hrep : ∀ (q : V) (v : Value), Rep ρ w (Live X.A T σ.objs) T q v → Rep ρ (upd w p.b C1 t) (Live X.A (T.put k' p') (Objs.put (Objs.put σ.objs k none) k' (some ob'))) (T.put k' p') q v :=
    fun q v hq => hq.later (by rw [upd_size]; exact Nat.le_refl _) (fun b _ hn => upd_other w _ _ (fun e => hn (.inr (e ▸ hliveK)))) (fun b _ hn hl => hn (hlive b hl))
      (fun b C' t' fr' hb' => by
        by_cases e : b = p.b
        · subst e
          rw [hb] at hb'
          cases hb'
          exact ⟨C1, _, upd_same w _ _ hblt, hsz⟩
        · exact ⟨C', fr', by rw [upd_other w _ _ e]; exact hb', rfl⟩) hT'
  have hM : X.w0.heap.size ≤ p.b ∨ X.M p.b := by
    cases hx : X.T0 k with
    | none => exact h.fresh k p hx hT
    | some q =>
      have h1 := h.pre k q hx
      rw [hT] at h1
      cases h1
      have h2 := h.old k (by rw [hx]; simp) (by rw [hk]; simp)
      cases ho : X.objs0 k with
      | none => exact (h2 ho).elim
      | some z => exact .inr ⟨k, z, p, ho, hx, rfl⟩
  have hsame : ∀ D : CellP, (∀ r c, D k r c → k' = k ∧ (c < p.s → C1[p.o + (r * p.s + c)]? = C0[p.o + (r * p.s + c)]?)) → SameC T σ.objs D w (upd w p.b C1 t) := by
    intro D hD j r c q h1 h2 h3 h4
    by_cases e : q.b = p.b
    · cases hx : σ.objs j with
      | none => exact (h2 hx).elim
      | some x =>
        have ej := h.mem.inj j k x ob q p hx hk h3 hT e
        subst ej
        rw [hT] at h3
        cases h3
        rw [cell_at (upd_same w C1 t hblt), cell_at hb]
        exact (hD r c h1).2 h4
    · exact cell_of_heap (w := w) (upd_other w _ _ e)
  refine ⟨⟨fun j q hj => hT' j q (h.pre j q hj), ⟨fun b hb => by rw [upd_size]; exact h.mem.avoid b hb, fun j q hj => by
    rw [upd_size]
    unfold Tab.put at hj
    split at hj
    · cases hj; rw [hp']; exact hblt
    · exact h.mem.low j q hj, ?_, ?_, h.mem.glob.later (by rw [upd_size]; exact Nat.le_refl _) (fun b _ hn => upd_other w _ _ (fun e => hn (.inr (e ▸ hliveK)))) (fun b _ hn hl => hn (hlive b hl))⟩, ?_, fun t => hrep _ _ (h.tmp t), h.size, h.defers.map hrep, ?_, ?_, ?_, ?_, h.pc.trans' (fun _ _ _ h => h) h.stay h.pre (hsame X.forb (by rw [h.hforb]; exact hforb)), h.hforb, h.hks⟩, hrep, fun D hD => ⟨⟨by rw [upd_size]; exact Nat.le_refl _, ?_⟩, hsame D hD, hT', ?_, fun b _ hl => hliveO b hl, ?_⟩⟩
  · intro j x hj
    have hj' : Objs.put (Objs.put σ.objs k none) k' (some ob') j = some x := hj
    unfold Objs.put at hj'
    by_cases e : j = k'
    · rw [if_pos e] at hj'
      cases hj'
      refine ⟨p', by unfold Tab.put; rw [if_pos e], by rw [hp']; exact hnA, hs', C1, t, by rw [hp']; exact upd_same w _ _ hblt, fun r row hr => ?_⟩
      obtain ⟨g1, g2, g3⟩ := hC r row hr
      refine ⟨g1, g2, fun c q hq => ?_⟩
      obtain ⟨v, h6, h7⟩ := g3 c q hq
      exact ⟨v, h6, hrep _ _ h7⟩
    · rw [if_neg e] at hj'
      by_cases e2 : j = k
      · rw [if_pos e2] at hj'; cases hj'
      · rw [if_neg e2] at hj'
        obtain ⟨q, h1, hA, h2, C', t', h3, h4⟩ := h.mem.obj j x hj'
        have hne : q.b ≠ p.b := fun e' => e2 (h.mem.inj j k x ob q p hj' hk h1 hT e')
        refine ⟨q, hT' _ _ h1, hA, h2, C', t', by rw [upd_other w _ _ hne]; exact h3, fun r row hr => ?_⟩
        obtain ⟨g1, g2, g3⟩ := h4 r row hr
        refine ⟨g1, g2, fun c q hq => ?_⟩
        obtain ⟨v, h6, h7⟩ := g3 c q hq
        exact ⟨v, h6, hrep _ _ h7⟩
  · intro i j x y q r hi hj hqi hqj hb2
    have hi' : Objs.put (Objs.put σ.objs k none) k' (some ob') i = some x := hi
    have hj' : Objs.put (Objs.put σ.objs k none) k' (some ob') j = some y := hj
    unfold Objs.put at hi' hj'
    unfold Tab.put at hqi hqj
    have other : ∀ (j : Nat) (y : Ob) (r : Pl), ¬ j = k' → (if j = k then none else σ.objs j) = some y → T j = some r → r.b ≠ p.b := by
      intro j y r hjk h1 h2 h3
      by_cases e2 : j = k
      · rw [if_pos e2] at h1; cases h1
      · rw [if_neg e2] at h1
        exact e2 (h.mem.inj j k y ob r p h1 hk h2 hT h3)
    by_cases e1 : i = k' <;> by_cases e2 : j = k'
    · omega
    · rw [if_pos e1] at hqi
      rw [if_neg e2] at hj' hqj
      cases hqi
      exact (other j y r e2 hj' hqj (by rw [← hb2, hp'])).elim
    · rw [if_pos e2] at hqj
      rw [if_neg e1] at hi' hqi
      cases hqj
      exact (other i x q e1 hi' hqi (by rw [hb2, hp'])).elim
    · rw [if_neg e1] at hi' hqi
      rw [if_neg e2] at hj' hqj
      by_cases e3 : i = k
      · rw [if_pos e3] at hi'; cases hi'
      · by_cases e4 : j = k
        · rw [if_pos e4] at hj'; cases hj'
        · rw [if_neg e3] at hi'
          rw [if_neg e4] at hj'
          exact h.mem.inj i j x y q r hi' hj' hqi hqj hb2
  · intro j hj
    have hj : (if k' = k then σ.next else σ.next + 1) ≤ j := hj
    have hj1 : σ.next ≤ j := by split at hj <;> omega
    obtain ⟨g1, g2⟩ := h.top j hj1
    have hne : ¬ j = k' := by
      rcases hkk with e | e
      · omega
      · intro e2
        rw [if_neg (by omega)] at hj
        omega
    show (Tab.put T k' p') j = none ∧ Objs.put (Objs.put σ.objs k none) k' (some ob') j = none
    unfold Tab.put Objs.put
    rw [if_neg hne, if_neg hne, if_neg (by omega)]
    exact ⟨g1, g2⟩
  · have hk2 := h.keep
    refine ⟨hk2.os, hk2.tape, hk2.output, by rw [upd_size]; exact hk2.size, fun b1 hb1 hn => ?_, fun b1 C2 t2 fr2 hb1 => ?_⟩
    · rw [upd_other w _ _ (fun e => by
        rw [e] at hb1 hn
        rcases hM with g | g
        · omega
        · exact hn g)]
      exact hk2.block b1 hb1 hn
    · obtain ⟨C3, fr3, h1, h2⟩ := hk2.shape b1 C2 t2 fr2 hb1
      by_cases e : b1 = p.b
      · subst e
        rw [hb] at h1
        cases h1
        exact ⟨C1, _, upd_same w _ _ hblt, hsz.trans h2⟩
      · exact ⟨C3, fr3, by rw [upd_other w _ _ e]; exact h1, h2⟩
  · intro j q hj hq
    unfold Tab.put at hq
    by_cases e : j = k'
    · rw [if_pos e] at hq
      cases hq
      rw [hp']
      exact hM
    · rw [if_neg e] at hq
      exact h.fresh j q hj hq
  · intro j h1 h2
    have h2' : Objs.put (Objs.put σ.objs k none) k' (some ob') j ≠ none := h2
    unfold Objs.put at h2'
    by_cases e : j = k'
    · rcases hkk with e1 | e1
      · exact h.old j h1 (by rw [e, e1, hk]; simp)
      · exfalso
        cases hx : X.T0 j with
        | none => exact h1 hx
        | some q =>
          have := h.pre j q hx
          rw [e, e1, htop1] at this
          cases this
    · rw [if_neg e] at h2'
      by_cases e2 : j = k
      · rw [if_pos e2] at h2'; exact (h2' rfl).elim
      · rw [if_neg e2] at h2'
        exact h.old j h1 h2'
  · intro j r c h1 h2
    show Objs.put (Objs.put σ.objs k none) k' (some ob') j ≠ none
    unfold Objs.put
    by_cases e : j = k'
    · rw [if_pos e]; simp
    · rw [if_neg e, if_neg (fun e2 => by subst e2; exact e (hforb r c (by rw [← h.hforb]; exact h1)).1.symm)]
      exact h.stay j r c h1 h2
  · intro b hb1 hn
    exact upd_other w _ _ (fun e => hn (by rw [e]; exact ⟨k, ob, p, hk, hT, rfl⟩))
  · intro j r c hj hne
    show Objs.put (Objs.put σ.objs k none) k' (some ob') j ≠ none
    unfold Objs.put
    by_cases e : j = k'
    · rw [if_pos e]; simp
    · rw [if_neg e, if_neg (fun e2 => by subst e2; exact e (hD r c hj).1.symm)]
      exact hne
  · intro j q hj hq
    unfold Tab.put at hj
    by_cases e : j = k'
    · rw [if_pos e] at hj
      cases hj
      exact ⟨k, p, hT, hp'.symm⟩
    · rw [if_neg e] at hj
      exact ⟨j, q, hj, rfl⟩

/-! ### Stores -/

/-- Cells laid over a row from a place on. -/
def overL : List V → List V → List V
  | [], row => row
  | _ :: _, [] => []
  | q :: l, _ :: row => q :: overL l row

def splice : Nat → List V → List V → List V
  | 0, row, l => overL l row
  | _ + 1, [], _ => []
  | c + 1, x :: row, l => x :: splice c row l

theorem overL_length : ∀ (l row : List V), (overL l row).length = row.length
  | [], row => rfl
  | _ :: _, [] => rfl
  | q :: l, x :: row => by simp [overL, overL_length l row]

theorem splice_length : ∀ (c : Nat) (row l : List V), (splice c row l).length = row.length
  | 0, row, l => overL_length l row
  | c + 1, [], l => rfl
  | c + 1, x :: row, l => by simp [splice, splice_length c row l]

theorem overL_get : ∀ (l row : List V) (i : Nat), l.length ≤ row.length → (overL l row)[i]? = if i < l.length then l[i]? else row[i]?
  | [], row, i, _ => by simp [overL]
  | _ :: _, [], i, h => by simp at h
  | q :: l, x :: row, 0, h => by simp [overL]
  | q :: l, x :: row, i + 1, h => by
    simp only [overL, List.getElem?_cons_succ, List.length_cons]
    rw [overL_get l row i (by simpa using h)]
    by_cases g : i < l.length
    · rw [if_pos g, if_pos (by omega)]
    · rw [if_neg g, if_neg (by omega)]

theorem splice_get : ∀ (c : Nat) (row l : List V) (i : Nat), c + l.length ≤ row.length → (splice c row l)[i]? = if c ≤ i ∧ i < c + l.length then l[i - c]? else row[i]?
  | 0, row, l, i, h => by
    rw [splice, overL_get l row i (by omega)]
    simp
  | c + 1, [], l, i, h => by simp at h
  | c + 1, x :: row, l, 0, h => by simp [splice]
  | c + 1, x :: row, l, i + 1, h => by
    simp only [splice, List.getElem?_cons_succ]
    rw [splice_get c row l i (by simp at h; omega)]
    by_cases g : c ≤ i ∧ i < c + l.length
    · rw [if_pos g, if_pos (by omega), show i + 1 - (c + 1) = i - c by omega]
    · rw [if_neg g, if_neg (by omega)]

def setRow (ob : Ob) (r : Nat) (row : List V) : Ob := ⟨ob.s, fun j => if j = r then some row else ob.row j⟩

theorem flat_lt {s r c r' c' : Nat} (hc : c < s) (hc' : c' < s) (h : r ≠ r') : r * s + c < r' * s ∨ r' * s + s ≤ r * s + c := by
  rcases Nat.lt_or_ge r r' with g | g
  · left
    have : (r + 1) * s ≤ r' * s := Nat.mul_le_mul_right _ g
    rw [Nat.add_mul, Nat.one_mul] at this
    omega
  · right
    have : (r' + 1) * s ≤ r * s := Nat.mul_le_mul_right _ (by omega)
    rw [Nat.add_mul, Nat.one_mul] at this
    omega

/-- A value is stored. -/
theorem qo_store {C : CellP} {o : Oper} {t : TypeId} {ti : TI} {x y : Operand} {k r c : Nat} {ob : Ob} {row l : List V} {N : St → Prop} (ho : o.op = .store t x y) (hdst : o.dst = none)
    (hx : evalV σ x = .ptr k r c) (hl : cellsV (evalV σ y) = l) (hone : l.all V.one = true) (ht : TyOK P t ti) (hs : ti.size = l.length) (h0 : 0 < l.length) (hk : σ.objs k = some ob) (hrow : ob.row r = some row)
    (hc : c + l.length ≤ row.length) (hforb : ∀ j, j < l.length → ¬ σ.forb k r (c + j)) (hC : ∀ j, j < l.length → ¬ C k r (c + j)) (h : N { σ with objs := Objs.put σ.objs k (some (setRow ob r (splice c row l))) }) : QO ρ P C o σ N K := by
  intro X T a w hh
  obtain ⟨p, hT, e1⟩ := rep_ptr (ev_rep hh hx)
  obtain ⟨p', hT', _, hs', C0, t0, hb, hrows⟩ := hh.mem.obj k ob hk
  rw [hT] at hT'
  cases hT'
  obtain ⟨h1, h2⟩ := cellsV_rep (eval_rep hh y) (by rw [hl]; exact hone)
  rw [hl] at h1 h2
  obtain ⟨g1, g2, g3⟩ := hrows r row hrow
  have hvl : (a.eval y).cells.toList.length = l.length := by simpa using h1
  have hin : p.o + (r * p.s + c) + l.length ≤ C0.size := by
    obtain ⟨v, hv, _⟩ := g3 (c + l.length - 1) row[c + l.length - 1] (List.getElem?_eq_getElem (by omega))
    rcases Nat.lt_or_ge (p.o + (r * p.s + (c + l.length - 1))) C0.size with g | g
    · omega
    · rw [Array.getElem?_eq_none g] at hv; cases hv
  have hv1 : ∀ v ∈ (a.eval y).cells.toList, v.oneCell' = true := by
    intro v hv
    obtain ⟨i, hi⟩ := List.mem_iff_getElem?.mp hv
    have hil := lt_of_get hi
    have hq : l[i]? = some l[i] := List.getElem?_eq_getElem (by omega)
    obtain ⟨x, f1, f2⟩ := h2 i _ hq
    have : (a.eval y).cells[i]? = some v := by simpa using hi
    rw [f1] at this
    cases this
    exact one_of_rep f2 (List.all_eq_true.mp hone _ (List.mem_of_getElem? hq))
  have hrun := run_storeCells (P := P) t0 p.b (p.o + (r * p.s + c)) (a.eval y).cells.toList 0 w C0 hb (by omega) hv1
  rw [Nat.add_zero] at hrun
  have hget := putA_get (a.eval y).cells.toList C0 (p.o + (r * p.s + c))
  rw [hvl] at hget
  have okc : ∀ D : CellP, (∀ j, j < l.length → ¬ D k r (c + j)) → ∀ r' c', D k r' c' → k = k ∧ (c' < p.s → (putA C0 (p.o + (r * p.s + c)) (a.eval y).cells.toList)[p.o + (r' * p.s + c')]? = C0[p.o + (r' * p.s + c')]?) := by
    intro D hD r' c' h1
    refine ⟨rfl, fun hlt => ?_⟩
    rw [hget _ hin, if_neg]
    rintro ⟨q1, q2⟩
    by_cases er : r' = r
    · subst er
      refine hD (c' - c) (by omega) ?_
      rw [show c + (c' - c) = c' by omega]
      exact h1
    · have f1 := flat_lt (s := p.s) (c := c') (c' := c) hlt (by omega) er
      have f2 := flat_lt (s := p.s) (c := c') (c' := c + l.length - 1) hlt (by omega) er
      omega
  obtain ⟨k1, k2, k3⟩ := hh.repl (ob' := setRow ob r (splice c row l)) (C1 := putA C0 (p.o + (r * p.s + c)) (a.eval y).cells.toList) hk (okc _ hforb) hT hb (putA_size _ _ _) (.inl ⟨rfl, rfl⟩) rfl hs' (by
    intro r' row' hr'
    have hr2 : (if r' = r then some (splice c row l) else ob.row r') = some row' := hr'
    by_cases er : r' = r
    · subst er
      rw [if_pos rfl] at hr2
      cases hr2
      refine ⟨by rw [splice_length]; exact g1, fun q hq => ?_, fun c' q hq => ?_⟩
      · obtain ⟨i, hi⟩ := List.mem_iff_getElem?.mp hq
        rw [splice_get c row l i hc] at hi
        split at hi
        · exact List.all_eq_true.mp hone _ (List.mem_of_getElem? hi)
        · exact g2 q (List.mem_of_getElem? hi)
      · rw [splice_get c row l c' hc] at hq
        split at hq
        · rename_i hin2
          obtain ⟨v, f1, f2⟩ := h2 (c' - c) q hq
          refine ⟨v, ?_, f2⟩
          rw [hget _ hin, if_pos (by omega), show p.o + (r' * p.s + c') - (p.o + (r' * p.s + c)) = c' - c by omega]
          simpa using f1
        · rename_i hin2
          obtain ⟨v, f1, f2⟩ := g3 c' q hq
          exact ⟨v, by rw [hget _ hin, if_neg (by omega)]; exact f1, f2⟩
    · rw [if_neg er] at hr2
      obtain ⟨f1, f2, f3⟩ := hrows r' row' hr2
      refine ⟨f1, f2, fun c' q hq => ?_⟩
      obtain ⟨v, f4, f5⟩ := f3 c' q hq
      have hc' := lt_of_get hq
      refine ⟨v, ?_, f5⟩
      have := flat_lt (s := p.s) (c := c') (c' := c) (by omega) (by omega) er
      rw [hget _ hin, if_neg (by omega)]
      exact f4)
  have hobj : Objs.put (Objs.put σ.objs k none) k (some (setRow ob r (splice c row l))) = Objs.put σ.objs k (some (setRow ob r (splice c row l))) := by
    funext j
    unfold Objs.put
    by_cases e : j = k
    · rw [if_pos e, if_pos e]
    · rw [if_neg e, if_neg e, if_neg e]
  have hk3 := k3 C (okc _ hC)
  rw [hobj] at k1 hk3
  rw [if_pos rfl] at k1
  unfold Oper.wp
  have hx2 : (execOp a.eval o).run P w = .ok .skip (upd w p.b (putA C0 (p.o + (r * p.s + c)) (a.eval y).cells.toList) t0) := by
    have : (a.eval y).cells.size = l.length := h1
    simp [execOp, ho, e1, Instr.storeAt, Instr.sureAddr, storeVar, this, ht.sizeOf, hs, hrun]
  rw [hx2]
  refine ⟨_, _, h, ?_, hk3⟩
  rw [hdst]
  exact k1

end Go.Proofs.YtjljgldgkkfckaaDoor.M
