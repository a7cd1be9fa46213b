/- Texts of this claim, one behind the other. -/
import Derived.Test.YtibmbbogjkecoaaDoorX1PatChecks
import Derived.MapKept
import Derived.Test.YtibmbbogjkecoaaDoorX0PatChecks
import Derived.Laws.IdiomStrings
/- Maps: made, looked into, written. -/
namespace Go.Proofs.YtibmbbogjkecoaaDoor.M
open Go Go.RowKit Go.MapKept
set_option linter.unusedSimpArgs false
set_option linter.unusedVariables false

variable {ρ : Nat → Value} {P : Program} {σ : St} {K : Ex → St → Prop}

/-- A map of rows: each a key and what it holds. -/
def mapOb (rows : List (List V)) : Ob := ⟨0, fun r => rows[r]?, true⟩

theorem repMap_nil {w : World} {L : Nat → Prop} {T : Tab} {b : Nat} (hb : w.heap[b]? = some (.map #[] 0)) : RepMap ρ w L T b (mapOb []).row :=
  ⟨#[], 0, hb, fun r _ => by simp [mapOb], fun r e he => by simp at he⟩

theorem qo_makeMap {C : CellP} {o : Oper} {t : TypeId} {N : St → Prop} (ho : o.op = .makeMap t none) (hd : dstOK o σ)
    (h : N (({ σ with objs := Objs.put σ.objs σ.next (some (mapOb [])), next := σ.next + 1 } : St).put o.dst (.mapr σ.next))) : QO ρ P C o σ N K := by
  intro X T a w hh
  have hrun : (execOp a.eval o).run P w = .ok (.value (.map (some w.heap.size))) (more w (.map #[] 0)) := by
    simp [execOp, ho, Instr.makeMap, more]
  obtain ⟨g1, g2, g3⟩ := hh.newO (mapOb []) (.map #[] 0) fun w' L' T' hb hrep => ⟨rfl, fun e => (by cases e), fun _ => repMap_nil hb⟩
  unfold Oper.wp
  rw [hrun]
  refine ⟨_, _, h, g1.put (.mapr σ.next ⟨w.heap.size, 0, 0⟩ (by show Tab.put T σ.next _ σ.next = _; unfold Tab.put; rw [if_pos rfl]; rfl)) hd, ?_⟩
  rw [put_objs]
  exact g3 C

/-! ### Keys -/

/-- Are these keys of that type the same? -/
def eqKey (d : TypeDesc) (q q' : V) : Option Bool := match d, q, q' with
  | .string, .ps l n, .ps l' n' => some (Nat.beq l l' && Nat.beq n n')
  | .int kd, .int k n, .int k' n' => if k = kd ∧ k' = kd then some (decide (n = n')) else none
  | _, _, _ => none

theorem eqKey_ok {w : World} {L : Nat → Prop} {T : Tab} {d : TypeDesc} {q q' : V} {b : Bool} {x y : Value} (h : eqKey d q q' = some b) (hx : Rep ρ w L T q x) (hy : Rep ρ w L T q' y) : IsKey d x ∧ IsKey d y ∧ (b = true ↔ x = y) := by
  unfold eqKey at h
  split at h
  · rename_i l n l' n'
    obtain ⟨rfl, h1⟩ := rep_ps hx
    obtain ⟨rfl, h2⟩ := rep_ps hy
    simp only [Option.some.injEq] at h
    subst h
    refine ⟨by simp [IsKey], by simp [IsKey], ?_⟩
    rw [Bool.and_eq_true, Nat.beq_eq, Nat.beq_eq, Value.string.injEq]
    constructor
    · rintro ⟨rfl, rfl⟩; rfl
    · intro e
      have e1 : l = l' := by
        have := congrArg ByteArray.size e
        rwa [unpack_size, unpack_size] at this
      subst e1
      refine ⟨rfl, bytesL_inj l n n' h1 h2 ?_⟩
      have : (bytesL l n).toArray = (bytesL l n').toArray := congrArg ByteArray.data e
      exact Array.toList_inj.mpr this |> fun h => by simpa using h
  · rename_i kd k n k' n'
    have := rep_int hx
    subst this
    have := rep_int hy
    subst this
    split at h
    · rename_i hk
      obtain ⟨rfl, rfl⟩ := hk
      simp only [Option.some.injEq] at h
      subst h
      refine ⟨by simp [IsKey], by simp [IsKey], ?_⟩
      simp
    · cases h
  · cases h

/-- Where a key stands, and what it holds. -/
def findV (d : TypeDesc) (q : V) : List (List V) → Nat → Option (Option (Nat × V))
  | [], _ => some none
  | row :: rows, i => match row with
    | [k, v] => match eqKey d q k with
      | some true => some (some (i, v))
      | some false => findV d q rows (i + 1)
      | none => none
    | _ => none

theorem find_run {w : World} {L : Nat → Prop} {T : Tab} {d : TypeDesc} {q : V} {x : Value} (hx : Rep ρ w L T q x) : ∀ (rows : List (List V)) (l : List MapEntry) (i : Nat) (a : Option (Nat × V)), rows.length = l.length →
    (∀ (r : Nat) (e : MapEntry), l[r]? = some e → ∃ k v, rows[r]? = some [k, v] ∧ Rep ρ w L T k e.key ∧ Rep ρ w L T v e.val) → findV d q rows i = some a →
    match a with
    | none => Instr.findNow d x l i = some none
    | some (j, v) => ∃ e, i ≤ j ∧ l[j - i]? = some e ∧ Instr.findNow d x l i = some (some (j, e.val)) ∧ Rep ρ w L T v e.val ∧ e.key = x ∧ IsKey d x
  | [], [], i, a, _, _, h => by
    simp only [findV, Option.some.injEq] at h
    subst h
    rfl
  | row :: rows, e :: l, i, a, hl, hr, h => by
    obtain ⟨k, v, g1, g2, g3⟩ := hr 0 e rfl
    simp only [List.getElem?_cons_zero, Option.some.injEq] at g1
    subst g1
    simp only [findV] at h
    split at h
    · rename_i hk
      obtain ⟨f1, f2, f3⟩ := eqKey_ok hk hx g2
      have hxe := f3.mp rfl
      simp only [Option.some.injEq] at h
      subst h
      obtain ⟨r, hr1, hr2⟩ := sameNow_of_keys f1 f2
      have : r = true := hr2.mpr hxe
      subst this
      exact ⟨e, Nat.le_refl _, by simp, by simp [Instr.findNow, hr1], g3, hxe.symm, f1⟩
    · rename_i hk
      obtain ⟨f1, f2, f3⟩ := eqKey_ok hk hx g2
      obtain ⟨r, hr1, hr2⟩ := sameNow_of_keys f1 f2
      have : r = false := by
        cases r with
        | false => rfl
        | true => have := f3.mpr (hr2.mp rfl); cases this
      subst this
      have ih := find_run hx rows l (i + 1) a (by simpa using hl) (fun r e' he' => by
        have := hr (r + 1) e' (by simpa using he')
        simpa using this) h
      cases a with
      | none => simpa [Instr.findNow, hr1] using ih
      | some p =>
        obtain ⟨j, v'⟩ := p
        obtain ⟨e', k1, k2, k3, k4⟩ := ih
        refine ⟨e', by omega, ?_, by simp [Instr.findNow, hr1, k3], k4⟩
        rw [show j - i = (j - (i + 1)) + 1 by omega, List.getElem?_cons_succ]
        exact k2
    · cases h
  | [], _ :: _, _, _, hl, _, _ => by simp at hl
  | _ :: _, [], _, _, hl, _, _ => by simp at hl

/-- What a map's block holds. -/
theorem map_block {X : Ctx} {T : Tab} {a : Act} {w : World} (h : HoldsT ρ X T σ a w) {k : Nat} {rows : List (List V)} (hk : σ.objs k = some (mapOb rows)) :
    ∃ p E clock, T k = some p ∧ p.s = 0 ∧ w.heap[p.b]? = some (.map E clock) ∧ rows.length = E.size ∧
      ∀ (r : Nat) (e : MapEntry), E[r]? = some e → ∃ k v, rows[r]? = some [k, v] ∧ Rep ρ w (Live X.A T σ.objs) T k e.key ∧ Rep ρ w (Live X.A T σ.objs) T v e.val := by
  obtain ⟨p, hT, _, hs, _, hm⟩ := h.mem.obj k _ hk
  obtain ⟨E, clock, g1, g2, g3⟩ := hm rfl
  refine ⟨p, E, clock, hT, hs, g1, ?_, g3⟩
  have h1 : rows[E.size]? = none := g2 E.size (Nat.le_refl _)
  have h2 := List.getElem?_eq_none_iff.mp h1
  rcases Nat.lt_or_ge rows.length E.size with g | g
  · obtain ⟨k, v, e1, _⟩ := g3 rows.length E[rows.length] (Array.getElem?_eq_getElem g)
    have e1 : rows[rows.length]? = some [k, v] := e1
    simp at e1
  · omega

theorem qo_lookup {C : CellP} {o : Oper} {t kt et : TypeId} {d : TypeDesc} {x ix : Operand} {ok : Bool} {k : Nat} {rows : List (List V)} {f : Option (Nat × V)} {z : V} {N : St → Prop} (ho : o.op = .lookup t x ix ok)
    (hx : evalV σ x = .mapr k) (hk : σ.objs k = some (mapOb rows)) (hu : P.underlying t = some (.map kt et)) (hdk : P.underlying kt = some d) (hkey : eqKey d (evalV σ ix) (evalV σ ix) = some true) (hf : findV d (evalV σ ix) rows 0 = some f) (hz : zeroV P et = some z) (hd : dstOK o σ)
    (h : N (σ.put o.dst (match ok, f with | true, some (_, v) => .tup [v, .bool true] | true, none => .tup [z, .bool false] | false, some (_, v) => v | false, none => z))) : QO ρ P C o σ N K := by
  intro X T a w hh
  obtain ⟨p, hT, e1⟩ := rep_mapr (ev_rep hh hx)
  obtain ⟨p', E, clock, hT', _, hb, hl, hr⟩ := map_block hh hk
  rw [hT] at hT'
  cases hT'
  have hix := eval_rep hh ix
  obtain ⟨hik, _, _⟩ := eqKey_ok hkey hix hix
  obtain ⟨zv, hz1, hz2⟩ := zeroV_run (ρ := ρ) hz
  have hfr := find_run hix rows E.toList 0 f (by simpa using hl) (fun r e he => hr r e (by simpa using he)) hf
  have tup : ∀ {v : V} {y : Value} {b : Bool}, Rep ρ w (Live X.A T σ.objs) T v y → Rep ρ w (Live X.A T σ.objs) T (.tup [v, .bool b]) (.tuple #[y, .bool b]) := by
    intro v y b hv
    refine .tup _ _ rfl fun i q hq => ?_
    match i with
    | 0 => simp at hq; subst hq; exact hv
    | 1 => simp at hq; subst hq; exact .pure (.bool _)
    | i + 2 => simp at hq
  unfold Oper.wp
  cases f with
  | none =>
    have hrun : (Instr.lookup t (.map (some p.b)) (a.eval ix) ok).run P w = .ok (if ok then .tuple #[zv, .bool false] else zv) w := by
      simp only [Instr.lookup, Sem.run_bind, run_underlying hu, Result.andThen, MapKept.run_getObj_map hb, Sem.run_pure, MapKept.run_checkKey hdk hik, MapKept.run_findKey hdk hfr, hz1]
    have hex : (execOp a.eval o).run P w = .ok (.value (if ok then .tuple #[zv, .bool false] else zv)) w := by
      simp [execOp, ho, e1, hrun, Result.andThen]
    rw [hex]
    refine ⟨T, _, h, hh.put ?_ hd, ?_⟩
    · cases ok with
      | true => exact tup (hz2 _ _ _)
      | false => exact hz2 _ _ _
    · rw [put_objs]; exact StepT.refl _ _ _ _
  | some q =>
    obtain ⟨j, v⟩ := q
    obtain ⟨e, _, k2, k3, k4, _, _⟩ := hfr
    have hrun : (Instr.lookup t (.map (some p.b)) (a.eval ix) ok).run P w = .ok (if ok then .tuple #[e.val, .bool true] else e.val) w := by
      simp only [Instr.lookup, Sem.run_bind, run_underlying hu, Result.andThen, MapKept.run_getObj_map hb, Sem.run_pure, MapKept.run_checkKey hdk hik, MapKept.run_findKey hdk k3]
    have hex : (execOp a.eval o).run P w = .ok (.value (if ok then .tuple #[e.val, .bool true] else e.val)) w := by
      simp [execOp, ho, e1, hrun, Result.andThen]
    rw [hex]
    refine ⟨T, _, h, hh.put ?_ hd, ?_⟩
    · cases ok with
      | true => exact tup k4
      | false => exact k4
    · rw [put_objs]; exact StepT.refl _ _ _ _

/-! ### What is written -/

/-- The world with another block. -/
def updO (w : World) (b : Nat) (o : Obj) : World := { w with heap := w.heap.setIfInBounds b o }
theorem updO_same (w : World) {b : Nat} (o : Obj) (hb : b < w.heap.size) : (updO w b o).heap[b]? = some o := by
  show (w.heap.setIfInBounds b _)[b]? = _
  simp [hb]
theorem updO_other (w : World) {b b' : Nat} (o : Obj) (hb : b' ≠ b) : (updO w b o).heap[b']? = w.heap[b']? := by
  show (w.heap.setIfInBounds b _)[b']? = _
  rw [Array.getElem?_setIfInBounds_ne (Ne.symm hb)]
theorem updO_size (w : World) (b : Nat) (o : Obj) : (updO w b o).heap.size = w.heap.size := by
  show (w.heap.setIfInBounds b _).size = _
  simp

theorem HoldsT.remap {X : Ctx} {T : Tab} {a : Act} {w : World} {k : Nat} {rows rows' : List (List V)} {p : Pl} {E E' : Array MapEntry} {clock clock' : Nat} (h : HoldsT ρ X T σ a w) (hk : σ.objs k = some (mapOb rows)) (hforb : ∀ r c, ¬ σ.forb k r c) (hT : T k = some p)
    (hb : w.heap[p.b]? = some (.map E clock)) (hl : rows'.length = E'.size)
    (hr : ∀ (r : Nat) (e : MapEntry), E'[r]? = some e → ∃ k v, rows'[r]? = some [k, v] ∧ Rep ρ w (Live X.A T σ.objs) T k e.key ∧ Rep ρ w (Live X.A T σ.objs) T v e.val) :
    HoldsT ρ X T { σ with objs := Objs.put σ.objs k (some (mapOb rows')) } a (updO w p.b (.map E' clock')) ∧ (∀ D : CellP, (∀ r c, ¬ D k r c) → StepT D T σ.objs w T (Objs.put σ.objs k (some (mapOb rows'))) (updO w p.b (.map E' clock'))) := by
  have hblt := lt_heap hb
  obtain ⟨p', hT', hnA, hs0, _⟩ := h.mem.obj k _ hk
  rw [hT] at hT'
  cases hT'
  have hput : ∀ {j : Nat} {x : Ob}, Objs.put σ.objs k (some (mapOb rows')) j = some x → j ≠ k → σ.objs j = some x := by
    intro j x hj e
    unfold Objs.put at hj
    rwa [if_neg e] at hj
  have hputs : ∀ {j : Nat} {x : Ob}, Objs.put σ.objs k (some (mapOb rows')) j = some x → ∃ y, σ.objs j = some y := by
    intro j x hj
    by_cases e : j = k
    · subst e; exact ⟨_, hk⟩
    · exact ⟨x, hput hj e⟩
  have hliveO : ∀ b, LiveO T (Objs.put σ.objs k (some (mapOb rows'))) b → LiveO T σ.objs b := fun b ⟨j, x, q, h1, h2, h3⟩ => by
    obtain ⟨y, hy⟩ := hputs h1
    exact ⟨j, y, q, hy, h2, h3⟩
  have hlive : ∀ b, Live X.A T (Objs.put σ.objs k (some (mapOb rows'))) b → Live X.A T σ.objs b := fun b h => h.imp id (hliveO b)
  have hliveK : LiveO T σ.objs p.b := ⟨k, _, p, hk, hT, rfl⟩
  have hshape : ∀ (w0 : World), (∀ (b : Nat) (C : Array Value) (t : TypeId) (fr : Nat × Nat), w.heap[b]? = some (.cells C t fr) → (updO w p.b (.map E' clock')).heap[b]? = some (.cells C t fr)) := by
    intro _ b C t fr hc
    by_cases e : b = p.b
    · subst e; rw [hb] at hc; cases hc
    · rw [updO_other w _ e]; exact hc
  have hrep : ∀ (q : V) (v : Value), Rep ρ w (Live X.A T σ.objs) T q v → Rep ρ (updO w p.b (.map E' clock')) (Live X.A T (Objs.put σ.objs k (some (mapOb rows')))) T q v :=
    fun q v hq => hq.later (by rw [updO_size]; exact Nat.le_refl _) (fun b _ hn => updO_other w _ (fun e => hn (.inr (e ▸ hliveK)))) (fun b _ hn hl => hn (hlive b hl))
      (fun b C t fr hc => ⟨C, fr, hshape w b C t fr hc, rfl⟩) (fun _ _ h => h)
  have hM : X.w0.heap.size ≤ p.b ∨ X.M p.b := by
    cases hx : X.T0 k with
    | none => exact h.fresh k p hx hT
    | some q =>
      have h1 := h.pre k q hx
      rw [hT] at h1
      cases h1
      have h2 := h.old k (by rw [hx]; simp) (by rw [hk]; simp)
      cases ho : X.objs0 k with
      | none => exact (h2 ho).elim
      | some z => exact .inr ⟨k, z, p, ho, hx, rfl⟩
  have hsame : ∀ D : CellP, (∀ r c, ¬ D k r c) → SameC T σ.objs D w (updO w p.b (.map E' clock')) := by
    intro D hD j r c q h1 h2 h3 h4
    by_cases e : q.b = p.b
    · cases hx : σ.objs j with
      | none => exact (h2 hx).elim
      | some x =>
        have ej := h.mem.inj j k x _ q p hx hk h3 hT e
        subst ej
        exact (hD r c h1).elim
    · exact cell_of_heap (w := w) (updO_other w _ e)
  have hkn : k < σ.next := by
    rcases Nat.lt_or_ge k σ.next with g | g
    · exact g
    · rw [(h.top k g).2] at hk; cases hk
  refine ⟨⟨h.pre, ⟨fun b hb => by rw [updO_size]; exact h.mem.avoid b hb, fun j q hj => by rw [updO_size]; exact h.mem.low j q hj, ?_, fun i j x y q r hi hj hqi hqj hb2 => ?_,
    h.mem.glob.later (by rw [updO_size]; exact Nat.le_refl _) (fun b _ hn => updO_other w _ (fun e => hn (.inr (e ▸ hliveK)))) (fun b _ hn hl => hn (hlive b hl))⟩, ?_, fun t => hrep _ _ (h.tmp t), h.size, h.defers.map hrep, ?_, h.fresh, ?_, ?_,
    h.pc.trans' (fun _ _ _ h => h) h.stay h.pre (hsame X.forb (by rw [h.hforb]; exact hforb)), h.hforb, h.hks⟩, fun D hD => ⟨⟨by rw [updO_size]; exact Nat.le_refl _, ?_⟩, hsame D hD, fun _ _ h => h, ?_, fun b _ hl => hliveO b hl, fun j q hj _ => ⟨j, q, hj, rfl⟩⟩⟩
  · intro j x hj
    by_cases e : j = k
    · have hj' : Objs.put σ.objs k (some (mapOb rows')) j = some x := hj
      unfold Objs.put at hj'
      rw [if_pos e] at hj'
      cases hj'
      subst e
      refine ⟨p, hT, hnA, hs0, fun e => (by cases e), fun _ => ⟨E', clock', updO_same w _ hblt, fun r hr0 => ?_, fun r e he => ?_⟩⟩
      · show rows'[r]? = none
        exact List.getElem?_eq_none (by omega)
      · obtain ⟨k, v, g1, g2, g3⟩ := hr r e he
        exact ⟨k, v, g1, hrep _ _ g2, hrep _ _ g3⟩
    · have hj' := hput hj e
      obtain ⟨q, h1, hA, h2⟩ := h.mem.obj j x hj'
      have hne : q.b ≠ p.b := fun e' => e (h.mem.inj j k x _ q p hj' hk h1 hT e')
      exact ⟨q, h1, hA, h2.later (updO_other w _ hne) hrep⟩
  · obtain ⟨x', hx'⟩ := hputs hi
    obtain ⟨y', hy'⟩ := hputs hj
    exact h.mem.inj i j x' y' q r hx' hy' hqi hqj hb2
  · intro j hj
    obtain ⟨g1, g2⟩ := h.top j hj
    refine ⟨g1, ?_⟩
    show Objs.put σ.objs k _ j = none
    unfold Objs.put
    rw [if_neg (fun e => by have : σ.next ≤ j := hj; omega)]
    exact g2
  · have hk2 := h.keep
    refine ⟨hk2.os, hk2.tape, hk2.output, by rw [updO_size]; exact hk2.size, fun b1 hb1 hn => ?_, fun b1 C2 t2 fr2 hb1 => ?_⟩
    · rw [updO_other w _ (fun e => by
        rw [e] at hb1 hn
        rcases hM with g | g
        · omega
        · exact hn g)]
      exact hk2.block b1 hb1 hn
    · obtain ⟨C3, fr3, h1, h2⟩ := hk2.shape b1 C2 t2 fr2 hb1
      exact ⟨C3, fr3, hshape w _ _ _ _ h1, h2⟩
  · intro j h1 h2
    refine h.old j h1 ?_
    have h2' : Objs.put σ.objs k (some (mapOb rows')) j ≠ none := h2
    cases hx : Objs.put σ.objs k (some (mapOb rows')) j with
    | none => exact (h2' hx).elim
    | some x =>
      obtain ⟨y, hy⟩ := hputs hx
      rw [hy]; simp
  · intro j r c h1 h2
    show Objs.put σ.objs k _ j ≠ none
    unfold Objs.put
    by_cases e : j = k
    · rw [if_pos e]; simp
    · rw [if_neg e]
      exact h.stay j r c h1 h2
  · intro b hb hn
    exact updO_other w _ (fun e => hn (e ▸ hliveK))
  · intro j r c h1 h2
    unfold Objs.put
    by_cases e : j = k
    · rw [if_pos e]; simp
    · rw [if_neg e]
      exact h2

theorem qo_mapUpdate {C : CellP} {o : Oper} {t kt et : TypeId} {d : TypeDesc} {x ix y : Operand} {k : Nat} {rows : List (List V)} {f : Option (Nat × V)} {N : St → Prop} (ho : o.op = .mapUpdate t x ix y ∨ o.op = .insert t x ix y) (hdst : o.dst = none)
    (hx : evalV σ x = .mapr k) (hk : σ.objs k = some (mapOb rows)) (hu : P.underlying t = some (.map kt et)) (hdk : P.underlying kt = some d) (hkey : eqKey d (evalV σ ix) (evalV σ ix) = some true) (hf : findV d (evalV σ ix) rows 0 = some f)
    (hforb : ∀ r c, ¬ σ.forb k r c) (hC : ∀ r c, ¬ C k r c)
    (h : N { σ with objs := Objs.put σ.objs k (some (mapOb (match f with | some (j, _) => rows.set j [evalV σ ix, evalV σ y] | none => rows ++ [[evalV σ ix, evalV σ y]]))) }) : QO ρ P C o σ N K := by
  intro X T a w hh
  obtain ⟨p, hT, e1⟩ := rep_mapr (ev_rep hh hx)
  obtain ⟨p', E, clock, hT', _, hb, hl, hr⟩ := map_block hh hk
  rw [hT] at hT'
  cases hT'
  have hix := eval_rep hh ix
  have hy := eval_rep hh y
  obtain ⟨hik, _, _⟩ := eqKey_ok hkey hix hix
  have hfr := find_run hix rows E.toList 0 f (by simpa using hl) (fun r e he => hr r e (by simpa using he)) hf
  have hex : ∀ w', (Instr.mapUpdate t (.map (some p.b)) (a.eval ix) (a.eval y)).run P w = .ok () w' → (execOp a.eval o).run P w = .ok .skip w' := by
    intro w' hw
    rcases ho with ho | ho <;> simp [execOp, ho, e1, hw, Result.andThen]
  unfold Oper.wp
  cases f with
  | none =>
    have hrun : (Instr.mapUpdate t (.map (some p.b)) (a.eval ix) (a.eval y)).run P w = .ok () (updO w p.b (.map (E.push { key := a.eval ix, val := a.eval y, born := clock }) (clock + 1))) := by
      simp [Instr.mapUpdate, run_underlying hu, MapKept.run_getObj_map hb, MapKept.run_checkKey hdk hik, MapKept.run_findKey hdk hfr, MapKept.run_setObj_map _ hb, Result.andThen, updO]
    rw [hex _ hrun]
    obtain ⟨g1, g2⟩ := hh.remap (rows' := rows ++ [[evalV σ ix, evalV σ y]]) (E' := E.push { key := a.eval ix, val := a.eval y, born := clock }) (clock' := clock + 1) hk hforb hT hb (by simp [hl]) (fun r e he => by
      rw [Array.getElem?_push] at he
      split at he
      · rename_i hr0
        cases he
        refine ⟨evalV σ ix, evalV σ y, ?_, hix, hy⟩
        rw [hr0, ← hl, List.getElem?_append_right (Nat.le_refl _)]
        simp
      · obtain ⟨k, v, f1, f2, f3⟩ := hr r e he
        refine ⟨k, v, ?_, f2, f3⟩
        rw [List.getElem?_append_left (lt_of_get f1)]
        exact f1)
    refine ⟨_, _, h, ?_, g2 C hC⟩
    rw [hdst]
    exact g1
  | some q =>
    obtain ⟨j, v⟩ := q
    obtain ⟨e, _, k2, k3, k4, k5, _⟩ := hfr
    have k2 : E[j]? = some e := by simpa using k2
    have hrun : (Instr.mapUpdate t (.map (some p.b)) (a.eval ix) (a.eval y)).run P w = .ok () (updO w p.b (.map (E.modify j fun e => { e with key := a.eval ix, val := a.eval y }) clock)) := by
      simp [Instr.mapUpdate, run_underlying hu, MapKept.run_getObj_map hb, MapKept.run_checkKey hdk hik, MapKept.run_findKey hdk k3, k2, k5, MapKept.run_keyThatStays hik, MapKept.run_setObj_map _ hb, Result.andThen, updO]
    rw [hex _ hrun]
    have hjl : j < rows.length := by
      rw [hl]
      rcases Nat.lt_or_ge j E.size with g | g
      · exact g
      · rw [Array.getElem?_eq_none g] at k2; cases k2
    obtain ⟨g1, g2⟩ := hh.remap (rows' := rows.set j [evalV σ ix, evalV σ y]) (E' := E.modify j fun e => { e with key := a.eval ix, val := a.eval y }) (clock' := clock) hk hforb hT hb (by simp [hl]) (fun r e' he => by
      rw [Array.getElem?_modify] at he
      rw [List.getElem?_set]
      by_cases e0 : j = r
      · subst e0
        rw [if_pos rfl, k2] at he
        cases he
        rw [if_pos rfl, if_pos hjl]
        exact ⟨_, _, rfl, hix, hy⟩
      · rw [if_neg e0] at he
        rw [if_neg e0]
        exact hr r e' he)
    refine ⟨_, _, h, ?_, g2 C hC⟩
    rw [hdst]
    exact g1

end Go.Proofs.YtibmbbogjkecoaaDoor.M

/- Rows of an object written at one go: copy, clear. -/
namespace Go.Proofs.YtibmbbogjkecoaaDoor.M
open Go Go.RowKit
set_option linter.unusedSimpArgs false
set_option linter.unusedVariables false

variable {ρ : Nat → Value} {P : Program} {σ : St} {K : Ex → St → Prop}

/-- Rows laid over rows from a place on. -/
def setRows (ob : Ob) (off : Nat) (L : List (List V)) : Ob := ⟨ob.s, fun j => if off ≤ j ∧ j < off + L.length then L[j - off]? else ob.row j, ob.mp⟩

theorem qo_rows {C : CellP} {o : Oper} {k off : Nat} {ob : Ob} {L : List (List V)} {v : V} {N : St → Prop} (hk : σ.objs k = some ob) (hmp : ob.mp = false) (hs : 0 < ob.s) (hd : dstOK o σ) (hne : 0 < L.length)
    (hold : ∀ r, r < L.length → ∃ row, ob.row (off + r) = some row)
    (hrun : ∀ (X : Ctx) (T : Tab) (a : Act) (w : World), HoldsT ρ X T σ a w → ∀ (p : Pl) (C0 : Array Value) (t0 : TypeId), T k = some p → p.s = ob.s → w.heap[p.b]? = some (.cells C0 t0 (0, 0)) → p.o + (off + L.length) * p.s ≤ C0.size →
      ∃ (vs : List Value) (y : Value), vs.length = L.length * ob.s ∧ (∀ (r : Nat) (row : List V), L[r]? = some row → row.length = ob.s ∧ (∀ q ∈ row, q.one = true) ∧ ∀ (c : Nat) (q : V), row[c]? = some q → ∃ x, vs[r * ob.s + c]? = some x ∧ Rep ρ w (Live X.A T σ.objs) T q x) ∧
        (execOp a.eval o).run P w = .ok (.value y) (upd w p.b (putA C0 (p.o + off * p.s) vs) t0) ∧ ∀ (w' : World) (L' : Nat → Prop) (T' : Tab), Rep ρ w' L' T' v y)
    (hforb : ∀ r c, ¬ σ.forb k r c) (hC : ∀ r c, ¬ C k r c) (h : N (({ σ with objs := Objs.put σ.objs k (some (setRows ob off L)) } : St).put o.dst v)) : QO ρ P C o σ N K := by
  intro X T a w hh
  obtain ⟨p, hT, _, hs', hcs, _⟩ := hh.mem.obj k ob hk
  obtain ⟨C0, t0, hb, hrows⟩ := hcs hmp
  have hfit : p.o + (off + L.length) * p.s ≤ C0.size := by
    obtain ⟨row, hrow⟩ := hold (L.length - 1) (by omega)
    obtain ⟨g1, g2, g3⟩ := hrows _ _ hrow
    obtain ⟨x, hx, _⟩ := g3 (ob.s - 1) row[ob.s - 1] (List.getElem?_eq_getElem (by omega))
    have hlt : p.o + ((off + (L.length - 1)) * p.s + (ob.s - 1)) < C0.size := by
      rcases Nat.lt_or_ge (p.o + ((off + (L.length - 1)) * p.s + (ob.s - 1))) C0.size with g | g
      · exact g
      · rw [Array.getElem?_eq_none g] at hx; cases hx
    have e : (off + L.length) * p.s = (off + (L.length - 1)) * p.s + p.s := by
      rw [show off + L.length = (off + (L.length - 1)) + 1 by omega, Nat.add_mul, Nat.one_mul]
    omega
  obtain ⟨vs, y, hvl, hL, hex, hy⟩ := hrun X T a w hh p C0 t0 hT hs' hb hfit
  have hfit2 : p.o + off * p.s + vs.length ≤ C0.size := by
    rw [hvl, ← hs']
    rw [Nat.add_mul] at hfit
    omega
  have hget := putA_get vs C0 (p.o + off * p.s)
  have okc : ∀ D : CellP, (∀ r c, ¬ D k r c) → ∀ r' c', D k r' c' → k = k ∧ (c' < p.s → (putA C0 (p.o + off * p.s) vs)[p.o + (r' * p.s + c')]? = C0[p.o + (r' * p.s + c')]?) := fun D hD r' c' h1 => (hD r' c' h1).elim
  obtain ⟨k1, k2, k3⟩ := hh.repl (ob' := setRows ob off L) (C1 := putA C0 (p.o + off * p.s) vs) hk (okc _ hforb) hT hb (putA_size _ _ _) (.inl ⟨rfl, rfl⟩) rfl hs' hmp (by
    intro r' row' hr'
    have hr2 : (if off ≤ r' ∧ r' < off + L.length then L[r' - off]? else ob.row r') = some row' := hr'
    by_cases er : off ≤ r' ∧ r' < off + L.length
    · rw [if_pos er] at hr2
      obtain ⟨g1, g2, g3⟩ := hL _ _ hr2
      refine ⟨g1, g2, fun c q hq => ?_⟩
      obtain ⟨x, f1, f2⟩ := g3 c q hq
      refine ⟨x, ?_, f2⟩
      have hj := lt_of_get f1
      have e1 : r' * p.s = off * p.s + (r' - off) * p.s := by rw [← Nat.add_mul]; congr 1; omega
      have e2 : (r' - off) * ob.s = (r' - off) * p.s := by rw [hs']
      rw [hget _ hfit2, if_pos (by omega), show p.o + (r' * p.s + c) - (p.o + off * p.s) = (r' - off) * ob.s + c by omega]
      exact f1
    · rw [if_neg er] at hr2
      obtain ⟨g1, g2, g3⟩ := hrows _ _ hr2
      refine ⟨g1, g2, fun c q hq => ?_⟩
      obtain ⟨x, f1, f2⟩ := g3 c q hq
      have hc := lt_of_get hq
      refine ⟨x, ?_, f2⟩
      rw [hget _ hfit2, if_neg]
      · exact f1
      · rintro ⟨q1, q2⟩
        have e3 : L.length * ob.s = L.length * p.s := by rw [hs']
        rcases Nat.lt_or_ge r' off with g | g
        · have : (r' + 1) * p.s ≤ off * p.s := Nat.mul_le_mul_right _ g
          rw [Nat.add_mul, Nat.one_mul] at this
          omega
        · have : (off + L.length) * p.s ≤ r' * p.s := Nat.mul_le_mul_right _ (by omega)
          rw [Nat.add_mul] at this
          omega)
  have hobj : Objs.put (Objs.put σ.objs k none) k (some (setRows ob off L)) = Objs.put σ.objs k (some (setRows ob off L)) := by
    funext j
    unfold Objs.put
    by_cases e : j = k
    · rw [if_pos e, if_pos e]
    · rw [if_neg e, if_neg e, if_neg e]
  have hk3 := k3 C (okc _ hC)
  rw [hobj] at k1 hk3
  rw [if_pos rfl] at k1
  have hTT : T.put k p = T := by
    funext j
    unfold Tab.put
    by_cases e : j = k
    · rw [if_pos e, e, hT]
    · rw [if_neg e]
  rw [hTT] at k1 hk3
  unfold Oper.wp
  rw [hex]
  refine ⟨_, _, h, k1.put (hy _ _ _) hd, ?_⟩
  rw [put_objs]
  exact hk3

/-! ### copy -/

theorem src_take {news : List Value} {s m n : Nat} (hl : news.length = m * s) (hn : n ≤ m) : (news.take (n * s)).length = n * s := by
  have : n * s ≤ m * s := Nat.mul_le_mul_right _ hn
  rw [List.length_take]
  omega

section
variable {C : CellP} {o : Oper} {d x : Operand} {t tx : TypeId} {e es eb k off len m n : Nat} {full : Bool} {ob : Ob} {f : Nat → Option (List V)} {L : List (List V)} {N : St → Prop}

theorem qo_copy (ho : o.op = .call { callee := .builtin .copy, args := #[d, x], argTypes := #[t, tx] }) (hdv : evalV σ d = .sl k off len full) (hk : σ.objs k = some ob) (hmp : ob.mp = false) (hst : ob.s = es)
    (hr : srcOf σ es (evalV σ x) = some (m, f)) (hf : ∀ r, r < m → (f r).isSome = true) (hel : ElOK P t e es eb) (hs : 0 < es) (hn : n = min m len) (hne : 0 < n) (hL : L.length = n) (hLr : ∀ r, r < n → f r = L[r]?)
    (hold : ∀ r, r < n → ∃ row, ob.row (off + r) = some row) (hd : dstOK o σ) (hforb : ∀ r c, ¬ σ.forb k r c) (hC : ∀ r c, ¬ C k r c)
    (h : N (({ σ with objs := Objs.put σ.objs k (some (setRows ob off L)) } : St).put o.dst (.int .i64 (.ofNat n)))) : QO ρ P C o σ N K := by
  obtain ⟨hu, i, z, hi, h1, h2, hz, hzs⟩ := hel
  subst hst
  refine qo_rows hk hmp hs hd (by omega) (fun r hr => hold r (by omega)) ?_ hforb hC h
  intro X T a w hh p C0 t0 hT hps hb hfit
  obtain ⟨p', at_, cap, hT', ha, hc, hfu, _, e1⟩ := rep_sl (ev_rep hh hdv)
  rw [hT] at hT'
  cases hT'
  obtain ⟨news, hlen, g1, g2, g3, g4⟩ := src_cells P hh (eval_rep hh x) hr hs hf
  · have hnm : n ≤ m := by omega
    have hlen0 : len ≠ 0 := by omega
    have hat : at_ = p.o + off * p.s := by omega
    have hlt := src_take g1 hnm
    have hfc : (Builtin.firstCells i.size n (a.eval x)).run P w = .ok (news.take (n * ob.s)).toArray w := by rw [h1]; exact g2 n w hnm rfl
    have hfit2 : p.o + off * p.s + 0 + (news.take (n * ob.s)).length ≤ C0.size := by
      rw [hlt, ← hps]
      rw [hL, Nat.add_mul] at hfit
      omega
    have hst := run_storeCells (P := P) t0 p.b (p.o + off * p.s) (news.take (n * ob.s)) 0 w C0 hb hfit2 (fun v hv => g4 v (List.mem_of_mem_take hv))
    rw [Nat.add_zero] at hst
    refine ⟨news.take (n * ob.s), .int .i64 (.ofNat n), by rw [hlt, hL], fun r row hrow => ?_, ?_, fun w' L' T' => .pure (.int _ _)⟩
    · have hrl : r < n := by have := lt_of_get hrow; omega
      have hfr : f r = some row := by rw [hLr r hrl]; exact hrow
      obtain ⟨k1, k2, k3⟩ := g3 r row (by omega) hfr
      refine ⟨k1, k2, fun c q hq => ?_⟩
      obtain ⟨v, k4, k5⟩ := k3 c q hq
      refine ⟨v, ?_, k5⟩
      have hc := lt_of_get hq
      rw [List.getElem?_take_of_lt]
      · exact k4
      · have : (r + 1) * ob.s ≤ n * ob.s := Nat.mul_le_mul_right _ hrl
        rw [Nat.add_mul, Nat.one_mul] at this
        omega
    · have hmin : Nat.min m len = n := hn.symm
      have hmin' : min m len = n := hn.symm
      simp only [execOp, ho, resolve, invoke, builtin, Sem.run_bind, Sem.run_pure, Result.andThen, List.map_toArray, List.map_cons, List.map_nil, e1]
      simp [Builtin.copy_, run_underlying hu, hlen, hmin, hmin', sizeOf, typeInfo, hi, hfc, hat, hst, goInt, Result.andThen]

/-- Of nothing. -/
theorem qo_copy0 (ho : o.op = .call { callee := .builtin .copy, args := #[d, x], argTypes := #[t, tx] }) (hel : ElOK P t e es eb) (hs : 0 < es) (hdl : (∃ k off len full, evalV σ d = .sl k off len full ∧ n = len) ∨ (evalV σ d = .sc (.slice none 0 0) ∧ n = 0))
    (hr : srcOf σ es (evalV σ x) = some (m, f)) (hf : ∀ r, r < m → (f r).isSome = true) (h0 : min m n = 0) (hd : dstOK o σ) (h : N (σ.put o.dst (.int .i64 (.ofNat 0)))) : QO ρ P C o σ N K := by
  obtain ⟨hu, i, z, hi, h1, h2, hz, hzs⟩ := hel
  intro X T a w hh
  have key : ∃ ad cap, a.eval d = .slice ad n cap := by
    rcases hdl with ⟨k, off, len, full, hdv, rfl⟩ | ⟨hdv, rfl⟩
    · obtain ⟨p, at_, cap, _, _, _, _, _, e1⟩ := rep_sl (ev_rep hh hdv)
      exact ⟨_, _, e1⟩
    · exact ⟨_, _, rep_sc (ev_rep hh hdv)⟩
  obtain ⟨ad, cap, e1⟩ := key
  obtain ⟨news, hlen, g1, g2, g3, g4⟩ := src_cells P hh (eval_rep hh x) hr hs hf
  have hfc : (Builtin.firstCells i.size 0 (a.eval x)).run P w = .ok #[] w := by
    have := g2 0 w (Nat.zero_le _) rfl
    rw [Nat.zero_mul] at this
    rw [h1]
    simpa using this
  have hmin : Nat.min m n = 0 := h0
  have hrun : (execOp a.eval o).run P w = .ok (.value (.int .i64 0)) w := by
    simp only [execOp, ho, resolve, invoke, builtin, Sem.run_bind, Sem.run_pure, Result.andThen, List.map_toArray, List.map_cons, List.map_nil, e1]
    cases ad <;> simp [Builtin.copy_, run_underlying hu, hlen, hmin, h0, sizeOf, typeInfo, hi, hfc, storeCells, goInt, Result.andThen]
  unfold Oper.wp
  rw [hrun]
  refine ⟨T, _, h, hh.put (.pure (.int _ _)) hd, ?_⟩
  rw [put_objs]
  exact StepT.refl _ _ _ _

/-! ### clear -/

theorem qo_clear (ho : o.op = .call { callee := .builtin .clear, args := #[d], argTypes := #[t] }) (hdv : evalV σ d = .sl k off len full) (hk : σ.objs k = some ob) (hmp : ob.mp = false) (hst : ob.s = es)
    (hel : ElOK P t e es eb) {ti : TI} (hti : TyOK P e ti) (hz1 : (ti.zero.map cv).all V.one = true) (hs : 0 < es) (hne : 0 < len) (hL : L = List.replicate len (ti.zero.map cv))
    (hold : ∀ r, r < len → ∃ row, ob.row (off + r) = some row) (hd : dstOK o σ) (hforb : ∀ r c, ¬ σ.forb k r c) (hC : ∀ r c, ¬ C k r c)
    (h : N (({ σ with objs := Objs.put σ.objs k (some (setRows ob off L)) } : St).put o.dst (.tup []))) : QO ρ P C o σ N K := by
  obtain ⟨hu, i, z, hi, h1, h2, hz, hzs⟩ := hel
  subst hst
  have hzz : z.cells.toList = ti.zero := by
    have := hti.zero
    rw [hi, Option.map_some, hz] at this
    simpa using this
  have hLl : L.length = len := by rw [hL, List.length_replicate]
  refine qo_rows hk hmp hs hd (by omega) (fun r hr => hold r (by omega)) ?_ hforb hC h
  intro X T a w hh p C0 t0 hT hps hb hfit
  obtain ⟨p', at_, cap, hT', ha, hc, hfu, _, e1⟩ := rep_sl (ev_rep hh hdv)
  rw [hT] at hT'
  cases hT'
  have hat : at_ = p.o + off * p.s := by omega
  have hvl : (Builtin.zeroCells z.cells len).toList.length = len * ob.s := by simp [Builtin.zeroCells, hzs]
  have hone : ∀ v ∈ (Builtin.zeroCells z.cells len).toList, v.oneCell' = true := by
    intro v hv
    simp only [Builtin.zeroCells, Array.toList_map, List.mem_map, Array.toList_range, List.mem_range] at hv
    obtain ⟨j, hj, rfl⟩ := hv
    have hlt : j % z.cells.size < z.cells.size := Nat.mod_lt _ (by omega)
    rw [getElem!_pos z.cells _ hlt]
    have hmem : cv z.cells[j % z.cells.size] ∈ ti.zero.map cv := by
      rw [← hzz]
      exact List.mem_map_of_mem (Array.getElem_mem_toList hlt)
    exact one_of_rep (ρ := ρ) (rep_cv w (fun _ => False) (fun _ => none) _) (List.all_eq_true.mp hz1 _ hmem)
  have hfit2 : p.o + off * p.s + 0 + (Builtin.zeroCells z.cells len).toList.length ≤ C0.size := by
    rw [hvl, ← hps]
    rw [hLl, Nat.add_mul] at hfit
    omega
  have hst := run_storeCells (P := P) t0 p.b (p.o + off * p.s) (Builtin.zeroCells z.cells len).toList 0 w C0 hb hfit2 hone
  rw [Nat.add_zero] at hst
  refine ⟨_, .tuple #[], by rw [hvl, hLl], fun r row hrow => ?_, ?_, fun w' L' T' => .tup [] #[] rfl fun i q hq => by simp at hq⟩
  · have hrl : r < len := by have := lt_of_get hrow; omega
    have hrw : (zeroOb ob.s len (z.cells.toList.map cv)).row r = some row := by
      show (if r < len then some (z.cells.toList.map cv) else none) = some row
      rw [if_pos hrl, hzz]
      rw [hL, List.getElem?_replicate, if_pos hrl] at hrow
      exact hrow
    have := zero_cells (ρ := ρ) (w := w) (L := Live X.A T σ.objs) (T := T) z.cells ob.s len len (by omega) hs (Nat.le_refl _) (by rw [hzz]; exact hz1) r row hrw
    obtain ⟨f1, f2, f3⟩ := this
    refine ⟨f1, f2, fun c q hq => ?_⟩
    obtain ⟨v, f4, f5⟩ := f3 c q hq
    refine ⟨v, ?_, f5⟩
    rw [Array.getElem?_toList]
    have e9 : len * z.cells.size = len * ob.s := by rw [hzs]
    unfold Builtin.zeroCells
    rw [e9]
    exact f4
  · have hlen0 : len ≠ 0 := by omega
    obtain ⟨l', rfl⟩ : ∃ l', len = l' + 1 := ⟨len - 1, by omega⟩
    simp only [execOp, ho, resolve, invoke, builtin, Sem.run_bind, Sem.run_pure, Result.andThen, List.map_toArray, List.map_cons, List.map_nil, e1]
    simp [Builtin.clear_, run_underlying hu, zeroValue, typeInfo, hi, hz, hat, hst, Result.andThen]

theorem qo_clear0 (ho : o.op = .call { callee := .builtin .clear, args := #[d], argTypes := #[t] }) (hu : P.underlying t = some (.slice e)) (hdl : (∃ k off full, evalV σ d = .sl k off 0 full) ∨ evalV σ d = .sc (.slice none 0 0))
    (hd : dstOK o σ) (h : N (σ.put o.dst (.tup []))) : QO ρ P C o σ N K := by
  intro X T a w hh
  have key : ∃ ad cap, a.eval d = .slice ad 0 cap := by
    rcases hdl with ⟨k, off, full, hdv⟩ | hdv
    · obtain ⟨p, at_, cap, _, _, _, _, _, e1⟩ := rep_sl (ev_rep hh hdv)
      exact ⟨_, _, e1⟩
    · exact ⟨_, _, rep_sc (ev_rep hh hdv)⟩
  obtain ⟨ad, cap, e1⟩ := key
  have hrun : (execOp a.eval o).run P w = .ok (.value (.tuple #[])) w := by
    simp only [execOp, ho, resolve, invoke, builtin, Sem.run_bind, Sem.run_pure, Result.andThen, List.map_toArray, List.map_cons, List.map_nil, e1]
    cases ad <;> simp [Builtin.clear_, run_underlying hu, Result.andThen]
  unfold Oper.wp
  rw [hrun]
  refine ⟨T, _, h, hh.put (.tup [] #[] rfl fun i q hq => by simp at hq) hd, ?_⟩
  rw [put_objs]
  exact StepT.refl _ _ _ _
end

/-! ### A store of nothing -/

theorem qo_store0 {C : CellP} {o : Oper} {t : TypeId} {ti : TI} {x y : Operand} {k r c : Nat} {N : St → Prop} (ho : o.op = .store t x y) (hdst : o.dst = none)
    (hx : evalV σ x = .ptr k r c) (hl : cellsV (evalV σ y) = []) (ht : TyOK P t ti) (hs : ti.size = 0) (h : N σ) : QO ρ P C o σ N K := by
  intro X T a w hh
  obtain ⟨p, hT, e1⟩ := rep_ptr (ev_rep hh hx)
  obtain ⟨h1, h2⟩ := cellsV_rep (eval_rep hh y) (by rw [hl]; rfl)
  rw [hl] at h1
  have h1 : (a.eval y).cells.size = 0 := h1
  have h3 : (a.eval y).cells = #[] := Array.eq_empty_of_size_eq_zero h1
  unfold Oper.wp
  have hx2 : (execOp a.eval o).run P w = .ok .skip w := by
    simp [execOp, ho, e1, Instr.storeAt, Instr.sureAddr, storeVar, h3, ht.sizeOf, hs, storeCells]
  rw [hx2]
  refine ⟨_, _, h, ?_, StepT.refl _ _ _ _⟩
  rw [hdst]
  exact hh

/-! ### append of noughts -/

theorem run_app_nilZ (w : World) (t tx ty e : TypeId) (i : TypeInfo) (z : Value) {kd k : IntKind} (ht : P.underlying t = some (.slice e)) (hx : P.underlying tx = some (.int kd)) (hi : P.info? e = some i) (hz : i.zero = some z)
    (n : Nat) (h0 : 0 < n) (hs : 0 < i.size) (h63 : n ≤ 9223372036854775807) (h48 : n * i.bytes ≤ 281474976710656) :
    ∃ C, (Builtin.append_ #[t, tx] ty #[.slice none 0 0, .int k (.ofNat n)]).run P w =
      .ok (.slice (some ⟨w.heap.size, 0, none⟩) n (grownCap w n 0 e)) (more w.drew (.cells (Builtin.zeroCells z.cells n ++ C) e (0, 0))) ∧ C.size = (grownCap w n 0 e - n) * z.cells.size := by
  have hn : n ≠ 0 := by omega
  have hs0 : i.size ≠ 0 := by omega
  have h63' : ¬ (9223372036854775807 < (n : Int)) := by omega
  have h48' : ¬ (281474976710656 < Builtin.nextslicecap n 0 * i.bytes) := by rw [nextslicecap_zero h0]; omega
  have hw : IntKind.i64.wrap (n : Int) = (n : Int) := by
    unfold IntKind.wrap
    have hb : (2 ^ IntKind.i64.bits : Int) = 18446744073709551616 := by decide
    have hb2 : (2 ^ (IntKind.i64.bits - 1) : Int) = 9223372036854775808 := by decide
    rw [hb, hb2]
    simp only []
    rw [Int.emod_eq_of_lt (by omega) (by omega), if_neg (by simp only [Bool.and_eq_true, decide_eq_true_eq, not_and]; intro _; omega)]
  have hneg : ¬ ((n : Int) < 0) := by omega
  have hbig : ¬ (281474976710656 < (n : Int) * (i.bytes : Int)) := by
    have : ((n * i.bytes : Nat) : Int) = (n : Int) * (i.bytes : Int) := by simp
    rw [← this]; omega
  refine ⟨Builtin.zeroCells z.cells (grownCap w n 0 e - n), ?_, size_zeroCells _ _⟩
  have hnn : n * i.size ≠ 0 := Nat.mul_ne_zero hn hs0
  simp [Builtin.append_, run_underlying ht, run_underlying hx, sizeOf, typeInfo, zeroValue, hi, hz, asInt, asIntOf, hw, hneg, hbig, hn, hs0, h63', h48', Question.forced, run_firstCells_none, newRow, grownCap, more]
  rw [if_neg hnn]
  rfl

theorem qo_appendZ {C : CellP} {o : Oper} {s x : Operand} {t tx : TypeId} {e es eb n : Nat} {kd k : IntKind} {N : St → Prop} (ho : isAppend o s x t tx) (hsv : evalV σ s = .sc (.slice none 0 0)) (hxv : evalV σ x = .int k (.ofNat n))
    (hel : ElOK P t e es eb) {ti : TI} (hti : TyOK P e ti) (hz1 : (ti.zero.map cv).all V.one = true) (htx : P.underlying tx = some (.int kd)) (hs : 0 < es) (hne : 0 < n) (h63 : n ≤ 9223372036854775807) (h48 : n * eb ≤ 281474976710656) (hd : dstOK o σ)
    (h : N (({ σ with objs := Objs.put σ.objs σ.next (some (rowsOb es (List.replicate n (ti.zero.map cv)))), next := σ.next + 1 } : St).put o.dst (.sl σ.next 0 n false))) : QO ρ P C o σ N K := by
  obtain ⟨hu, i, z, hi, h1, h2, hz, hzs⟩ := hel
  subst h1 h2
  have hzz : z.cells.toList = ti.zero := by
    have := hti.zero
    rw [hi, Option.map_some, hz] at this
    simpa using this
  refine qo_new rfl hd ?_ h
  intro X T a w hh
  have e1 := rep_sc (ev_rep hh hsv)
  have e2 := rep_int (ev_rep hh hxv)
  obtain ⟨D, hrun, hD⟩ := run_app_nilZ (P := P) w t tx o.type e i z (k := k) hu htx hi hz n hne hs h63 h48
  have hzc : (Builtin.zeroCells z.cells n).size = n * i.size := by simp [Builtin.zeroCells, hzs]
  refine ⟨Builtin.zeroCells z.cells n ++ D, e, _, w.drew, rfl, rfl, rfl, rfl, run_of_append ho (by rw [e1, e2]; exact hrun), fun r row hrow => ?_, fun T' w' L hT hb => ?_⟩
  · have hrow : (List.replicate n (ti.zero.map cv))[r]? = some row := hrow
    have hrl : r < n := by have := lt_of_get hrow; simpa using this
    rw [List.getElem?_replicate, if_pos hrl] at hrow
    have hrw : (zeroOb i.size n (z.cells.toList.map cv)).row r = some row := by
      show (if r < n then some (z.cells.toList.map cv) else none) = some row
      rw [if_pos hrl, hzz]
      exact hrow
    obtain ⟨f1, f2, f3⟩ := zero_cells (ρ := ρ) (w := w) (L := Live X.A T σ.objs) (T := T) z.cells i.size n n (by omega) hs (Nat.le_refl _) (by rw [hzz]; exact hz1) r row hrw
    refine ⟨f1, f2, fun c q hq => ?_⟩
    obtain ⟨v, f4, f5⟩ := f3 c q hq
    refine ⟨v, ?_, f5⟩
    have e9 : n * z.cells.size = n * i.size := by rw [hzs]
    have hlt : r * i.size + c < n * i.size := by
      have : r * i.size + i.size ≤ n * i.size := by rw [← Nat.succ_mul]; exact Nat.mul_le_mul_right _ hrl
      have := lt_of_get hq
      omega
    show (Builtin.zeroCells z.cells n ++ D)[r * i.size + c]? = some v
    rw [Array.getElem?_append_left (by rw [hzc]; exact hlt)]
    unfold Builtin.zeroCells
    rw [e9]
    exact f4
  · have hge := grown_ge w n 0 e
    exact .sl σ.next 0 n false ⟨w.heap.size, 0, i.size⟩ 0 _ hT (.inr (by simp)) hge (fun hx => by cases hx) ⟨_, _, _, hb, by
      simp only [Array.size_append, hzc, hD, hzs]
      rw [Nat.zero_add, ← Nat.add_mul]
      exact Nat.mul_le_mul_right _ (by omega)⟩

/-! ### cap -/

theorem qq_cap {C : CellP} {o : Oper} {d : Operand} {t e : TypeId} {k off len : Nat} (ho : o.op = .call { callee := .builtin .cap, args := #[d], argTypes := #[t] }) (hu : P.underlying t = some (.slice e)) (hdv : evalV σ d = .sl k off len true) :
    QQ ρ P σ C o (.int .i64 (.ofNat len)) := by
  intro X T a w hh
  obtain ⟨p, at_, cap, _, _, _, hf, _, e1⟩ := rep_sl (ev_rep hh hdv)
  have hc := hf rfl
  refine ⟨_, .pure (.int _ _), fun w' _ _ => ?_⟩
  simp only [execOp, ho, resolve, invoke, builtin, Sem.run_bind, Sem.run_pure, Result.andThen, List.map_toArray, List.map_cons, List.map_nil, e1]
  simp [Builtin.cap_, run_underlying hu, goInt, hc]

theorem qq_cap_nil {C : CellP} {o : Oper} {d : Operand} {t e : TypeId} (ho : o.op = .call { callee := .builtin .cap, args := #[d], argTypes := #[t] }) (hu : P.underlying t = some (.slice e)) (hdv : evalV σ d = .sc (.slice none 0 0)) :
    QQ ρ P σ C o (.int .i64 (.ofNat 0)) := by
  intro X T a w hh
  have e1 := rep_sc (ev_rep hh hdv)
  refine ⟨_, .pure (.int _ _), fun w' _ _ => ?_⟩
  simp only [execOp, ho, resolve, invoke, builtin, Sem.run_bind, Sem.run_pure, Result.andThen, List.map_toArray, List.map_cons, List.map_nil, e1]
  simp [Builtin.cap_, run_underlying hu, goInt]

end Go.Proofs.YtibmbbogjkecoaaDoor.M

/- A text's bytes as a slice: what is made is written by nobody. -/
namespace Go.Proofs.YtibmbbogjkecoaaDoor.M
open Go Go.RowKit
set_option linter.unusedSimpArgs false
set_option linter.unusedVariables false

variable {ρ : Nat → Value} {P : Program} {σ : St} {K : Ex → St → Prop}

/-- A block more, of which nobody speaks. -/
theorem HoldsT.aside {X : Ctx} {T : Tab} {a : Act} {w : World} (h : HoldsT ρ X T σ a w) (o : Obj) : HoldsT ρ X T σ a (more w o) := by
  have hrep : ∀ (q : V) (v : Value), Rep ρ w (Live X.A T σ.objs) T q v → Rep ρ (more w o) (Live X.A T σ.objs) T q v :=
    fun q v hq => hq.later (by rw [more_size]; omega) (fun b hb _ => more_old w _ hb) (fun b hb hn => hn) (fun b C' t fr hb => ⟨C', fr, by rw [more_old w _ (lt_heap hb)]; exact hb, rfl⟩) (fun _ _ h => h)
  refine ⟨h.pre, ⟨fun b hb => by rw [more_size]; have := h.mem.avoid b hb; omega, fun k p hk => by rw [more_size]; have := h.mem.low k p hk; omega, fun k ob hk => ?_, h.mem.inj,
    h.mem.glob.later (by rw [more_size]; omega) (fun b hb _ => more_old w _ hb) (fun b hb hn => hn)⟩, h.top, fun t => hrep _ _ (h.tmp t), h.size, h.defers.map hrep,
    h.keep.trans ⟨rfl, rfl, rfl, by rw [more_size]; omega, fun b hb _ => more_old w _ hb, fun b C t fr hb => ⟨C, fr, by rw [more_old w _ (lt_heap hb)]; exact hb, rfl⟩⟩, h.fresh, h.old, h.stay,
    h.pc.trans' (fun _ _ _ h => h) h.stay h.pre (SameC.of_blocks h.mem.low fun b hb => more_old w _ hb), h.hforb, h.hks⟩
  obtain ⟨p, h1, hA, h2⟩ := h.mem.obj k ob hk
  exact ⟨p, h1, hA, h2.later (more_old w _ h2.heap) hrep⟩

theorem StepT.aside {C : CellP} {T : Tab} {objs : Objs} {w w1 : World} (e : w1.heap = w.heap) (o : Obj) (hl : ∀ (k : Nat) (p : Pl), T k = some p → p.b < w.heap.size) : StepT C T objs w T objs (more w1 o) := by
  have hb : ∀ b, b < w.heap.size → (more w1 o).heap[b]? = w.heap[b]? := fun b hb => by rw [more_old w1 o (by rw [e]; exact hb), e]
  exact ⟨⟨by rw [more_size, e]; omega, fun b h _ => hb b h⟩, SameC.of_blocks hl hb, fun _ _ h => h, fun _ _ _ _ h => h, fun _ _ h => h, fun k p h _ => ⟨k, p, h, rfl⟩⟩

def StrBytes (P : Program) (t u : TypeId) : Bool := match P.underlying t, P.underlying u with
  | some .string, some (.slice e) => match P.underlying e with
    | some (.int .u8) => true
    | _ => false
  | _, _ => false

theorem qo_strBytes {C : CellP} {o : Oper} {x : Operand} {t u : TypeId} {len n : Nat} {N : St → Prop} (ho : o.op = .convert t u x) (hx : evalV σ x = .ps len n) (ht : StrBytes P t u = true) (hd : dstOK o σ)
    (h : N (σ.put o.dst (.ro 1 (byteRows len n)))) : QO ρ P C o σ N K := by
  unfold StrBytes at ht
  split at ht
  · rename_i e h1 h2
    split at ht
    · rename_i h3
      intro X T a w hh
      obtain ⟨e1, hn⟩ := rep_ps (ev_rep hh hx)
      have hrun := run_bytes_of_string (P := P) w t u e (unpack len n) h1 h2 h3
      have hex : (execOp a.eval o).run P w = .ok (.value (.slice (some ⟨w.heap.size, 0, none⟩) (unpack len n).size (grownCap w (unpack len n).size 0 e))) (more w.drew (.cells (bytesRow (unpack len n) (grownCap w (unpack len n).size 0 e)) e ((bytesRow (unpack len n) (grownCap w (unpack len n).size 0 e)).size, (bytesRow (unpack len n) (grownCap w (unpack len n).size 0 e)).size + 1))) := by
        simp only [execOp, ho, e1, Sem.run_bind, hrun, Result.andThen, Sem.run_pure]
        rfl
      generalize hcap : grownCap w (unpack len n).size 0 e = cap at hex
      have hge : len ≤ cap := by
        have := grown_ge w (unpack len n).size 0 e
        rw [unpack_size] at this
        rw [← hcap, unpack_size]
        exact this
      generalize hC : bytesRow (unpack len n) cap = Cs at hex
      have hcell : ∀ i, i < len → Cs[i]? = some (.int .u8 (((n / 256 ^ i % 256 : Nat)) : Int)) := by
        intro i hi
        rw [← hC]
        unfold bytesRow
        have hs : (unpack len n).data.size = len := unpack_size len n
        rw [Array.getElem?_append_left (by simp [hs, hi])]
        rw [Array.getElem?_map]
        have : (unpack len n).data[i]? = some (UInt8.ofNat (n / 256 ^ i % 256)) := by
          show (bytesL len n).toArray[i]? = _
          rw [List.getElem?_toArray]
          exact bytesL_get len n i hi
        rw [this]
        simp
      unfold Oper.wp
      rw [hex]
      have hh1 := (hh.congr (w' := w.drew) rfl rfl rfl rfl).aside (.cells Cs e (Cs.size, Cs.size + 1))
      refine ⟨T, _, h, hh1.put ?_ hd, ?_⟩
      · rw [unpack_size]
        have hroom : (more w.drew (.cells Cs e (Cs.size, Cs.size + 1))).heap[w.heap.size]? = some (.cells Cs e (Cs.size, Cs.size + 1)) := more_new w.drew _
        have cellAt : ∀ i, i < len → (more w.drew (.cells Cs e (Cs.size, Cs.size + 1))).cell? ⟨w.heap.size, i, none⟩ = some (.int .u8 (((n / 256 ^ i % 256 : Nat)) : Int)) := by
          intro i hi
          unfold World.cell?
          simp only [hroom]
          exact hcell i hi
        have := RepP.ro (ρ := ρ) (w := more w.drew (.cells Cs e (Cs.size, Cs.size + 1))) (L := Live X.A T σ.objs) 1 (byteRows len n) w.heap.size 0 cap (fun r _ => .int .u8 (((n / 256 ^ r % 256 : Nat)) : Int))
          (fun hl => by
            rcases hl with g | ⟨k, ob, p, g1, g2, g3⟩
            · exact Nat.lt_irrefl _ (hh.mem.avoid _ g)
            · have := hh.mem.low k p g2; omega)
          (by rw [more_size]; show w.heap.size < w.heap.size + 1; omega) (by rw [byteRows_length]; exact hge)
          (fun row hrow => by
            obtain ⟨i, _, rfl⟩ := List.mem_map.mp hrow
            exact ⟨rfl, fun q hq => by simp at hq; subst hq; rfl⟩)
          (fun r row hr c q hq => by
            have hlt := lt_of_get hr
            rw [byteRows_length] at hlt
            rw [byteRows_get hlt] at hr
            cases hr
            have hc0 : c = 0 := by have := lt_of_get hq; simp at this; omega
            subst hc0
            simpa using cellAt r hlt)
          (fun r row hr c q hq => by
            have hlt := lt_of_get hr
            rw [byteRows_length] at hlt
            rw [byteRows_get hlt] at hr
            cases hr
            have hc0 : c = 0 := by have := lt_of_get hq; simp at this; omega
            subst hc0
            simp at hq
            subst hq
            exact .int _ _)
        rw [byteRows_length] at this
        exact .pure this
      · rw [put_objs]
        exact StepT.aside (w := w) (w1 := w.drew) rfl _ hh.mem.low
    · cases ht
  · cases ht

/-- A value without objects. -/
def V.flat : V → Bool
  | .ptr .. | .sl .. | .fn .. | .bnd .. | .mapr .. | .ifc .. | .agg _ | .tup _ => false
  | _ => true

theorem repP_flat {w : World} {L : Nat → Prop} {T : Tab} {q : V} {v : Value} (h : Rep ρ w L T q v) (hf : q.flat = true) : RepP ρ w L q v := by
  cases h with
  | pure h => exact h
  | _ => cases hf


/-! ### A slice as one of its own type: from now on nobody writes it -/

/-- The world with a mark at a block. -/
def markd (w : World) (b : Nat) (C : Array Value) (t : TypeId) (fr : Nat × Nat) : World := { w with heap := w.heap.setIfInBounds b (.cells C t fr) }
theorem markd_same (w : World) {b : Nat} (C : Array Value) (t : TypeId) (fr : Nat × Nat) (hb : b < w.heap.size) : (markd w b C t fr).heap[b]? = some (.cells C t fr) := by
  show (w.heap.setIfInBounds b _)[b]? = _
  simp [hb]
theorem markd_other (w : World) {b b' : Nat} (C : Array Value) (t : TypeId) (fr : Nat × Nat) (hb : b' ≠ b) : (markd w b C t fr).heap[b']? = w.heap[b']? := by
  show (w.heap.setIfInBounds b _)[b']? = _
  rw [Array.getElem?_setIfInBounds_ne (Ne.symm hb)]
theorem markd_size (w : World) (b : Nat) (C : Array Value) (t : TypeId) (fr : Nat × Nat) : (markd w b C t fr).heap.size = w.heap.size := by
  show (w.heap.setIfInBounds b _).size = _
  simp
theorem markd_cell (w : World) {b : Nat} (C : Array Value) (t : TypeId) (fr fr0 : Nat × Nat) (h : w.heap[b]? = some (.cells C t fr0)) (a : Addr) : (markd w b C t fr).cell? a = w.cell? a := by
  unfold World.cell?
  by_cases e : a.block = b
  · rw [e, markd_same w C t fr (lt_heap h), h]
  · rw [markd_other w C t fr e]

theorem HoldsT.shut {X : Ctx} {T : Tab} {a : Act} {w : World} {k : Nat} {ob : Ob} {p : Pl} {C : Array Value} {t : TypeId} {fr : Nat × Nat} (h : HoldsT ρ X T σ a w) (hk : σ.objs k = some ob) (hT : T k = some p) (hb : w.heap[p.b]? = some (.cells C t (0, 0))) (hforb : ∀ r c, ¬ σ.forb k r c) :
    HoldsT ρ X T { σ with objs := Objs.put σ.objs k none } a (markd w p.b C t fr) ∧ (∀ D : CellP, (∀ r c, ¬ D k r c) → StepT D T σ.objs w T (Objs.put σ.objs k none) (markd w p.b C t fr)) ∧ ¬ Live X.A T (Objs.put σ.objs k none) p.b := by
  have hblt := lt_heap hb
  have hput : ∀ {j : Nat} {x : Ob}, Objs.put σ.objs k none j = some x → j ≠ k ∧ σ.objs j = some x := by
    intro j x hj
    unfold Objs.put at hj
    by_cases e : j = k
    · rw [if_pos e] at hj; cases hj
    · rw [if_neg e] at hj; exact ⟨e, hj⟩
  have hliveO : ∀ b, LiveO T (Objs.put σ.objs k none) b → LiveO T σ.objs b := fun b ⟨j, x, q, h1, h2, h3⟩ => ⟨j, x, q, (hput h1).2, h2, h3⟩
  have hlive : ∀ b, Live X.A T (Objs.put σ.objs k none) b → Live X.A T σ.objs b := fun b h => h.imp id (hliveO b)
  have hliveK : LiveO T σ.objs p.b := ⟨k, ob, p, hk, hT, rfl⟩
  have hnA : ¬ X.A p.b := by
    obtain ⟨q, h1, h2, _⟩ := h.mem.obj k ob hk
    rw [hT] at h1
    cases h1
    exact h2
  have hcell : ∀ a : Addr, (markd w p.b C t fr).cell? a = w.cell? a := markd_cell w C t fr _ hb
  have hrep : ∀ (q : V) (v : Value), Rep ρ w (Live X.A T σ.objs) T q v → Rep ρ (markd w p.b C t fr) (Live X.A T (Objs.put σ.objs k none)) T q v :=
    fun q v hq => hq.later (by rw [markd_size]; exact Nat.le_refl _) (fun b _ hn => markd_other w _ _ _ (fun e => hn (.inr (e ▸ hliveK)))) (fun b _ hn hl => hn (hlive b hl))
      (fun b C' t' fr' hb' => by
        by_cases e : b = p.b
        · subst e
          rw [hb] at hb'
          cases hb'
          exact ⟨C, fr, markd_same w _ _ _ hblt, rfl⟩
        · exact ⟨C', fr', by rw [markd_other w _ _ _ e]; exact hb', rfl⟩) (fun _ _ h => h)
  have hM : X.w0.heap.size ≤ p.b ∨ X.M p.b := by
    cases hx : X.T0 k with
    | none => exact h.fresh k p hx hT
    | some q =>
      have h1 := h.pre k q hx
      rw [hT] at h1
      cases h1
      have h2 := h.old k (by rw [hx]; simp) (by rw [hk]; simp)
      cases ho : X.objs0 k with
      | none => exact (h2 ho).elim
      | some z => exact .inr ⟨k, z, p, ho, hx, rfl⟩
  have hsame : ∀ D : CellP, SameC T σ.objs D w (markd w p.b C t fr) := fun D j r c q _ _ _ _ => hcell _
  refine ⟨⟨h.pre, ⟨fun b hb => by rw [markd_size]; exact h.mem.avoid b hb, fun j q hj => by rw [markd_size]; exact h.mem.low j q hj, ?_, fun i j x y q r hi hj hqi hqj hb2 => h.mem.inj i j x y q r (hput hi).2 (hput hj).2 hqi hqj hb2,
    h.mem.glob.later (by rw [markd_size]; exact Nat.le_refl _) (fun b _ hn => markd_other w _ _ _ (fun e => hn (.inr (e ▸ hliveK)))) (fun b _ hn hl => hn (hlive b hl))⟩, ?_, fun t => hrep _ _ (h.tmp t), h.size, h.defers.map hrep, ?_, h.fresh, ?_, ?_,
    h.pc.trans' (fun _ _ _ h => h) h.stay h.pre (hsame X.forb), h.hforb, h.hks⟩, fun D hD => ⟨⟨by rw [markd_size]; exact Nat.le_refl _, ?_⟩, hsame D, fun _ _ h => h, ?_, fun b _ hl => hliveO b hl, fun j q hj _ => ⟨j, q, hj, rfl⟩⟩, ?_⟩
  · intro j x hj
    obtain ⟨hne, hj'⟩ := hput hj
    obtain ⟨q, h1, hA, h2⟩ := h.mem.obj j x hj'
    have hne : q.b ≠ p.b := fun e' => hne (h.mem.inj j k x ob q p hj' hk h1 hT e')
    exact ⟨q, h1, hA, h2.later (markd_other w _ _ _ hne) hrep⟩
  · intro j hj
    obtain ⟨g1, g2⟩ := h.top j hj
    refine ⟨g1, ?_⟩
    show Objs.put σ.objs k none j = none
    unfold Objs.put
    split
    · rfl
    · exact g2
  · have hk2 := h.keep
    refine ⟨hk2.os, hk2.tape, hk2.output, by rw [markd_size]; exact hk2.size, fun b1 hb1 hn => ?_, fun b1 C2 t2 fr2 hb1 => ?_⟩
    · rw [markd_other w _ _ _ (fun e => by
        rw [e] at hb1 hn
        rcases hM with g | g
        · omega
        · exact hn g)]
      exact hk2.block b1 hb1 hn
    · obtain ⟨C3, fr3, h1, h2⟩ := hk2.shape b1 C2 t2 fr2 hb1
      by_cases e : b1 = p.b
      · subst e
        rw [hb] at h1
        cases h1
        exact ⟨C, fr, markd_same w _ _ _ hblt, h2⟩
      · exact ⟨C3, fr3, by rw [markd_other w _ _ _ e]; exact h1, h2⟩
  · intro j h1 h2
    refine h.old j h1 ?_
    have h2' : Objs.put σ.objs k none j ≠ none := h2
    unfold Objs.put at h2'
    split at h2'
    · exact (h2' rfl).elim
    · exact h2'
  · intro j r c h1 h2
    show Objs.put σ.objs k none j ≠ none
    unfold Objs.put
    by_cases e : j = k
    · subst e
      rw [h.hforb] at h1
      exact (hforb _ _ h1).elim
    · rw [if_neg e]
      exact h.stay j r c h1 h2
  · intro b hb hn
    exact markd_other w _ _ _ (fun e => hn (e ▸ hliveK))
  · intro j r c h1 h2
    unfold Objs.put
    by_cases e : j = k
    · subst e
      exact (hD _ _ h1).elim
    · rw [if_neg e]
      exact h2
  · rintro (g | ⟨j, x, q, h1, h2, h3⟩)
    · exact hnA g
    · obtain ⟨hne, h1⟩ := hput h1
      exact hne (h.mem.inj j k x ob q p h1 hk h2 hT h3)

theorem modify_set (a : Array Obj) (i : Nat) (x y : Obj) (f : Obj → Obj) (h : a[i]? = some x) (hf : f x = y) : a.modify i f = a.setIfInBounds i y := by
  apply Array.ext
  · simp
  · intro j h1 h2
    have hj : j < a.size := by simpa using h1
    rw [Array.getElem_modify]
    by_cases e : i = j
    · subst e
      have : a[i] = x := by
        rw [Array.getElem?_eq_getElem hj] at h
        exact Option.some.inj h
      simp [this, hf]
    · rw [if_neg e]
      simp [Array.getElem_setIfInBounds, e, hj]

def SelfBytes (P : Program) (t u : TypeId) : Bool := Nat.beq t u && match P.underlying t with
  | some (.slice e) => match P.underlying e with
    | some (.int .u8) => true
    | _ => false
  | _ => false

theorem run_selfBytes {w : World} {t e : TypeId} {a : Addr} {l c : Nat} {C : Array Value} {t' : TypeId} (h1 : P.underlying t = some (.slice e)) (h2 : P.underlying e = some (.int .u8)) (hb : w.heap[a.block]? = some (.cells C t' (0, 0))) :
    (convert t t (.slice (some a) l c)).run P w = .ok (.slice (some a) l c) (markd w a.block C t' (C.size, C.size + 1)) := by
  have hsh : w.shape? a.block = some (t', C.size) := by
    unfold World.shape?
    rw [hb]
  have hfr : w.freeze ⟨a.block, C.size, none⟩ 1 = markd w a.block C t' (C.size, C.size + 1) := by
    unfold World.freeze markd
    rw [if_neg (by decide)]
    rw [modify_set w.heap a.block _ _ _ hb rfl]
    rfl
  simp [convert, run_underlying h1, run_underlying h2, markStringish, hsh]
  exact hfr

theorem qo_selfBytes {C : CellP} {o : Oper} {x : Operand} {t u : TypeId} {k len : Nat} {full : Bool} {ob : Ob} {rows : List (List V)} {N : St → Prop} (ho : o.op = .convert t u x) (hx : evalV σ x = .sl k 0 len full) (ht : SelfBytes P t u = true) (hk : σ.objs k = some ob) (hmp : ob.mp = false) (hs : ob.s = 1)
    (hl : rows.length = len) (hrows : ∀ (r : Nat) (row : List V), rows[r]? = some row → ob.row r = some row ∧ ∀ q ∈ row, q.flat = true) (hC : ∀ r c, ¬ C k r c) (hforb : ∀ r c, ¬ σ.forb k r c) (hd : dstOK o σ)
    (h : N (St.put { σ with objs := Objs.put σ.objs k none } o.dst (.ro 1 rows))) : QO ρ P C o σ N K := by
  unfold SelfBytes at ht
  rw [Bool.and_eq_true] at ht
  obtain ⟨htu, ht⟩ := ht
  have htu := Nat.eq_of_beq_eq_true htu
  subst htu
  split at ht
  · rename_i e h1
    split at ht
    · rename_i h2
      intro X T a w hh
      obtain ⟨p, at_, cap, hT, ha, hc, hf, _, e1⟩ := rep_sl (ev_rep hh hx)
      obtain ⟨p', hT', hA, hs', hcs, _⟩ := hh.mem.obj k ob hk
      obtain ⟨Cs, t', hb, hcells⟩ := hcs hmp
      rw [hT] at hT'
      cases hT'
      have hex : (execOp a.eval o).run P w = .ok (.value (.slice (some ⟨p.b, at_, none⟩) len cap)) (markd w p.b Cs t' (Cs.size, Cs.size + 1)) := by
        simp only [execOp, ho, e1, Sem.run_bind, run_selfBytes (P := P) (w := w) (a := ⟨p.b, at_, none⟩) (l := len) (c := cap) h1 h2 hb, Result.andThen, Sem.run_pure]
      obtain ⟨g1, g2, g3⟩ := hh.shut (fr := (Cs.size, Cs.size + 1)) hk hT hb hforb
      unfold Oper.wp
      rw [hex]
      have hrow : ∀ (r : Nat) (row : List V), rows[r]? = some row → row.length = 1 ∧ (∀ q ∈ row, q.one = true) ∧ ∀ (c : Nat) (q : V), row[c]? = some q → ∃ v, Cs[p.o + (r * p.s + c)]? = some v ∧ Rep ρ w (Live X.A T σ.objs) T q v := by
        intro r row hr
        obtain ⟨j1, j2, j3⟩ := hcells r row (hrows r row hr).1
        exact ⟨by rw [j1, hs], j2, j3⟩
      have hval : ∃ val : Nat → Nat → Value, ∀ (r : Nat) (row : List V), rows[r]? = some row → ∀ (c : Nat) (q : V), row[c]? = some q → Cs[p.o + (r * p.s + c)]? = some (val r c) ∧ Rep ρ w (Live X.A T σ.objs) T q (val r c) := by
        refine ⟨fun r c => (Cs[p.o + (r * p.s + c)]?).getD undef, fun r row hr c q hq => ?_⟩
        obtain ⟨v, j1, j2⟩ := (hrow r row hr).2.2 c q hq
        show Cs[p.o + (r * p.s + c)]? = some ((Cs[p.o + (r * p.s + c)]?).getD undef) ∧ Rep ρ w (Live X.A T σ.objs) T q ((Cs[p.o + (r * p.s + c)]?).getD undef)
        rw [j1]
        exact ⟨rfl, j2⟩
      obtain ⟨val, hval⟩ := hval
      refine ⟨T, _, h, g1.put ?_ hd, ?_⟩
      · have hps : p.s = 1 := by omega
        have key := RepP.ro (ρ := ρ) (w := markd w p.b Cs t' (Cs.size, Cs.size + 1)) (L := Live X.A T (Objs.put σ.objs k none)) 1 rows p.b at_ cap val g3 (by rw [markd_size]; exact lt_heap hb) (by omega)
          (fun row hr => by
            obtain ⟨r, hr⟩ := List.getElem?_of_mem hr
            exact ⟨(hrow r row hr).1, (hrow r row hr).2.1⟩)
          (fun r row hr c q hq => by
            rw [markd_cell w Cs t' _ _ hb, cell_at hb]
            have hlt := lt_of_get hr
            rcases ha with ha | ha
            · omega
            · have := (hval r row hr c q hq).1
              rw [hps] at this
              rw [ha, hps]
              simpa using this)
          (fun r row hr c q hq => by
            have := (hval r row hr c q hq).2
            have hflat : q.flat = true := (hrows r row hr).2 q (List.mem_of_getElem? hq)
            exact (repP_flat this hflat).later (by rw [markd_size]; exact Nat.le_refl _) (fun b _ hn => markd_other w _ _ _ (fun e => hn (.inr ⟨k, ob, p, hk, hT, e.symm⟩))) (fun b _ hn hl => hn (hl.imp id fun ⟨j, x, q, i1, i2, i3⟩ => by
              unfold Objs.put at i1
              split at i1
              · cases i1
              · exact ⟨j, x, q, i1, i2, i3⟩)))
        rw [hl] at key
        exact .pure key
      · rw [put_objs]
        exact g2 C hC
    · cases ht
  · cases ht

end Go.Proofs.YtibmbbogjkecoaaDoor.M

/- Quiet operations, as the kernel runs them: conversions, parts, structs, and which is which. -/
namespace Go.Proofs.YtibmbbogjkecoaaDoor.M
open Go Go.RowKit
set_option linter.unusedSimpArgs false
set_option linter.unusedVariables false

variable {ρ : Nat → Value} {P : Program}

/-! ### Conversions -/

noncomputable def wrapK (k : IntKind) (n : Int) (f : Int → Ans) : Ans :=
  Int.rec (motive := fun _ => AnsT) (fun m => boolK (Nat.ble m (maxK k)) (f (.ofNat m)) (forceZ (k.wrap (.ofNat m)) f)) (fun m => forceZ (k.wrap (.negSucc m)) f) n
theorem wrapK_inv {k : IntKind} {n : Int} {f : Int → Ans} (h : wrapK k n f = .ok) : f (k.wrap n) = .ok := by
  cases n with
  | ofNat m =>
    rcases boolK_inv h with ⟨h1, h9⟩ | ⟨h1, h9⟩
    · rw [wrap_small (Nat.le_of_ble_eq_true h1)]; exact h9
    · rwa [forceZ_eq] at h9
  | negSucc m =>
    have h : forceZ (k.wrap (.negSucc m)) f = .ok := h
    rwa [forceZ_eq] at h

noncomputable def sizeOne (l : List V) (f : V → Ans) : Ans := List.rec (motive := fun _ => AnsT) (.err 62) (fun q t _ => List.rec (motive := fun _ => AnsT) (f q) (fun _ _ _ => .err 62) t) l
theorem sizeOne_inv {l : List V} {f : V → Ans} (h : sizeOne l f = .ok) : ∃ q, l = [q] ∧ f q = .ok := by
  cases l with
  | nil => exact Ans.no h
  | cons q t =>
    cases t with
    | nil => exact ⟨q, rfl, h⟩
    | cons _ _ => exact Ans.no h

/-- Bytes of a slice's rows, as a number. -/
noncomputable def byteK (ob : KOb) (l : Nat) : Nat → (Nat → Ans) → Ans :=
  Nat.rec (motive := fun _ => Nat → (Nat → Ans) → Ans) (fun _ k => k Nat.zero) (fun _ ih off k => ob.row off fun row => sizeOne row fun q => q.onInt fun kd n => onNat n fun b => must (Nat.beq (numK kd) 4) (must (Nat.ble b 255) (ih (Nat.succ off) fun m => forceN (Nat.add b (Nat.mul 256 m)) k))) l
theorem byteK_inv {ob : KOb} {x : Ob} (hx : absK ob = some x) : ∀ {l off : Nat} {k : Nat → Ans}, byteK ob l off k = .ok → ∃ bs : List UInt8, bs.length = l ∧ (∀ (i : Nat) (b : UInt8), bs[i]? = some b → x.row (off + i) = some [.int .u8 b.toNat]) ∧ k (packL bs) = .ok
  | 0, off, k, h => ⟨[], rfl, by simp, h⟩
  | l + 1, off, k, h => by
    have h : (ob.row off fun row => sizeOne row fun q => q.onInt fun kd n => onNat n fun b => must (Nat.beq (numK kd) 4) (must (Nat.ble b 255) (byteK ob l (Nat.succ off) fun m => forceN (Nat.add b (Nat.mul 256 m)) k))) = .ok := h
    obtain ⟨y, row, h1, hmp, h2, h⟩ := KOb.row_inv h
    rw [hx] at h1
    cases h1
    obtain ⟨q, h3, h⟩ := sizeOne_inv h
    obtain ⟨kd, n, h4, h⟩ := V.onInt_inv h
    obtain ⟨b, h5, h⟩ := onNat_inv h
    obtain ⟨h6, h⟩ := must_inv h
    obtain ⟨h7, h⟩ := must_inv h
    have hk : kd = .u8 := numK_inj (k' := .u8) h6
    have hb := Nat.le_of_ble_eq_true h7
    obtain ⟨bs, h8, h9, h⟩ := byteK_inv hx h
    rw [forceN_eq] at h
    have e : (UInt8.ofNat b).toNat = b := by simp; omega
    refine ⟨UInt8.ofNat b :: bs, by simp [h8], fun i c hi => ?_, ?_⟩
    · cases i with
      | zero =>
        simp at hi
        subst hi
        rw [h3, h4, h5, hk] at h2
        rw [e]
        exact h2
      | succ i =>
        simp at hi
        rw [show off + (i + 1) = Nat.succ off + i by omega]
        exact h9 i c hi
    · show k ((UInt8.ofNat b).toNat + 256 * packL bs) = .ok
      rw [e]
      exact h

noncomputable def qConv (P : Program) (i : Nat) (t u : TypeId) (x : Operand) : QOp := match tiOf P t, tiOf P u with
  | some ⟨_, .int _, _⟩, some ⟨_, .int kd, _⟩ => q1 x fun v _ hs k => v.onInt fun _ n => wrapK kd n fun m => k (.int kd m) hs
  | some ⟨_, .slice e _ _, _⟩, some ⟨_, .string, _⟩ => match P.underlying e with
    | some (.int .u8) => q1 x fun v hp hs k => v.onSl (fun j off len _ => (acc4 KOb j).get hp fun ob => ob.ofS 1 (byteK ob len off fun n => k (.ps len n) ((i, ⟨j, off, len, 0, 1⟩) :: hs))) (fun _ => .err 121)
    | _ => qbad 122
  | _, _ => qbad 123
theorem qConv_spec {i : Nat} {o : Oper} {t u : TypeId} {x : Operand} (ho : o.op = .convert t u x) : QSpec ρ P i o (qConv P i t u x) := by
  unfold qConv
  split
  · rename_i h1 h2
    exact q1_spec fun fr tm hp nx hs k vx hx h => by
      obtain ⟨k', n, rfl, h7⟩ := V.onInt_inv h
      exact ⟨_, wrapK_inv (f := fun m => k (.int _ m) hs) h7, fun C => qq_convert_int ho hx (tiOf_ok h1) rfl (tiOf_ok h2) rfl⟩
  · rename_i h1 h2
    split
    · rename_i he
      intro fr tm hp nx hs k h
      have h := opd_inv (k := fun v => v.onSl (fun j off len _ => (acc4 KOb j).get hp fun ob => ob.ofS 1 (byteK ob len off fun n => k (.ps len n) ((i, ⟨j, off, len, 0, 1⟩) :: hs))) (fun _ => .err 121)) h fr hp nx
      rcases V.onSl_inv h with ⟨j, off, len, full, hx, h⟩ | ⟨_, _, h⟩
      · obtain ⟨ob, h3, h⟩ := ob_inv h
        obtain ⟨⟨y, h4, hmp, h5⟩, h⟩ := KOb.ofS_inv h
        obtain ⟨bs, h6, h7, h⟩ := byteK_inv h4 h
        exact ⟨_, [⟨j, off, len, 0, 1⟩], h, qq_bytesString ho hx (fun i hi => ⟨_, List.mem_cons_self, rfl, Nat.le_add_right _ _, Nat.add_lt_add_left hi _, Nat.le_refl _, Nat.lt_succ_self _⟩) (h3.trans h4) hmp h5 h6 h7 (slice_of (tiOf_ok h1) rfl).1 he (string_of (tiOf_ok h2) rfl)⟩
      · exact Ans.no h
    · exact qspec_bad
  · exact qspec_bad

/-! ### Parts -/

noncomputable def lowK (x : Option Operand) (tm : Tm) (d : Nat) (k : Nat → Ans) : Ans := match x with
  | none => k d
  | some x => (opd x).get tm fun v => v.onInt fun _ n => onNat n k
theorem lowK_inv {x : Option Operand} {tm : Tm} {k : Nat → Ans} (h : lowK x tm 0 k = .ok) (fr : Fr) (hp : Hp) (nx : Nat) : ∃ l, lowV (absS fr tm hp nx) x = some l ∧ k l = .ok := by
  cases x with
  | none => exact ⟨0, rfl, h⟩
  | some x =>
    obtain ⟨kd, n, h1, h⟩ := V.onInt_inv (opd_inv (k := fun v => v.onInt fun _ n => onNat n k) h fr hp nx)
    obtain ⟨l, h2, h⟩ := onNat_inv h
    refine ⟨l, ?_, h⟩
    unfold lowV
    simp only [h1, h2]
theorem highK_inv {x : Option Operand} {tm : Tm} {d : Nat} {k : Nat → Ans} (h : lowK x tm d k = .ok) (fr : Fr) (hp : Hp) (nx : Nat) : ∃ l, highV (absS fr tm hp nx) d x = some l ∧ k l = .ok := by
  cases x with
  | none => exact ⟨d, rfl, h⟩
  | some x =>
    obtain ⟨kd, n, h1, h⟩ := V.onInt_inv (opd_inv (k := fun v => v.onInt fun _ n => onNat n k) h fr hp nx)
    obtain ⟨l, h2, h⟩ := onNat_inv h
    refine ⟨l, ?_, h⟩
    unfold highV
    simp only [h1, h2]

noncomputable def boundK (low high : Option Operand) (tm : Tm) (len : Nat) (f : Nat → Nat → Ans) : Ans := lowK low tm 0 fun l => lowK high tm len fun h => must (Nat.ble l h) (must (Nat.ble h len) (f l h))
theorem boundK_inv {low high : Option Operand} {tm : Tm} {len : Nat} {f : Nat → Nat → Ans} (h : boundK low high tm len f = .ok) (fr : Fr) (hp : Hp) (nx : Nat) :
    ∃ a b, lowV (absS fr tm hp nx) low = some a ∧ highV (absS fr tm hp nx) len high = some b ∧ a ≤ b ∧ b ≤ len ∧ f a b = .ok := by
  obtain ⟨a, h1, h⟩ := lowK_inv h fr hp nx
  obtain ⟨b, h2, h⟩ := highK_inv h fr hp nx
  obtain ⟨h3, h⟩ := must_inv h
  obtain ⟨h4, h⟩ := must_inv h
  exact ⟨a, b, h1, h2, Nat.le_of_ble_eq_true h3, Nat.le_of_ble_eq_true h4, h⟩

/-- So many rows, from a place on. -/
noncomputable def takeK (n : Nat) : List (List V) → (List (List V) → Ans) → Ans :=
  Nat.rec (motive := fun _ => List (List V) → (List (List V) → Ans) → Ans) (fun _ k => k []) (fun _ ih l k => List.rec (motive := fun _ => AnsT) (k []) (fun x t _ => ih t fun t' => k (x :: t')) l) n
theorem takeK_inv : ∀ {n : Nat} {l : List (List V)} {k : List (List V) → Ans}, takeK n l k = .ok → k (l.take n) = .ok
  | 0, l, k, h => (by rw [List.take_zero]; exact h)
  | n + 1, [], k, h => h
  | n + 1, x :: t, k, h => takeK_inv (n := n) (l := t) (k := fun t' => k (x :: t')) h
noncomputable def partK (a n : Nat) : List (List V) → (List (List V) → Ans) → Ans :=
  Nat.rec (motive := fun _ => List (List V) → (List (List V) → Ans) → Ans) (fun l k => takeK n l k) (fun _ ih l k => List.rec (motive := fun _ => AnsT) (k []) (fun _ t _ => ih t k) l) a
theorem partK_inv : ∀ {a n : Nat} {l : List (List V)} {k : List (List V) → Ans}, partK a n l k = .ok → k ((l.drop a).take n) = .ok
  | 0, n, l, k, h => takeK_inv h
  | a + 1, n, [], k, h => by simpa using (show k [] = .ok from h)
  | a + 1, n, x :: t, k, h => by rw [List.drop_succ_cons]; exact partK_inv (a := a) h

noncomputable def qSlice (P : Program) (t : TypeId) (x : Operand) (low high : Option Operand) : QOp := match tiOf P t with
  | some ⟨_, .string, _⟩ => ⟨fun tm hp hs k => (opd x).get tm fun v => v.onSlPs (fun _ _ _ _ => .err 124) (fun len n => boundK low high tm len fun a b => forceN (Nat.sub b a) fun m => forceN (Nat.mod (Nat.div n (Nat.pow 256 a)) (Nat.pow 256 m)) fun c => k (.ps m c) hs) (fun _ => .err 124)⟩
  | some ⟨_, .slice _ es _, _⟩ => ⟨fun tm hp hs k => (opd x).get tm fun v => v.onNilS
      (fun j off len full => boundK low high tm len fun a b => (acc4 KOb j).get hp fun ob => ob.ofS es (forceN (Nat.add off a) fun off' => forceN (Nat.sub b a) fun m => forceB (full && Nat.beq b len) fun f => k (.sl j off' m f) hs))
      (fun s rows => must (Nat.beq s es) (forceN rows.length fun len => boundK low high tm len fun a b => partK a (Nat.sub b a) rows fun rows' => k (.ro s rows') hs)) (fun w => must (isNilSl w) (boundK low high tm 0 fun _ _ => k v hs))⟩
  | _ => qbad 126
theorem qSlice_spec {i : Nat} {o : Oper} {t : TypeId} {x : Operand} {low high : Option Operand} (ho : o.op = .slice t x low high none) : QSpec ρ P i o (qSlice P t x low high) := by
  unfold qSlice
  split
  · rename_i hti
    exact qspec_of fun fr tm hp nx hs k h => by
      have h := opd_inv (k := fun v => v.onSlPs (fun _ _ _ _ => .err 124) (fun len n => boundK low high tm len fun a b => forceN (Nat.sub b a) fun m => forceN (Nat.mod (Nat.div n (Nat.pow 256 a)) (Nat.pow 256 m)) fun c => k (.ps m c) hs) (fun _ => .err 124)) h fr hp nx
      rcases V.onSlPs_inv h with ⟨_, _, _, _, _, h⟩ | ⟨len, n, hx, h⟩ | ⟨_, _, h⟩
      · exact Ans.no h
      · obtain ⟨a, b, h1, h2, h3, h4, h⟩ := boundK_inv h fr hp nx
        rw [forceN_eq, forceN_eq] at h
        exact ⟨_, h, fun C => qq_slicePs ho hx (tiOf_ok hti) rfl h1 h2 h3 h4⟩
      · exact Ans.no h
  · rename_i es _ _ hti
    exact qspec_of fun fr tm hp nx hs k h => by
      have h := opd_inv (k := fun v => v.onNilS
        (fun j off len full => boundK low high tm len fun a b => (acc4 KOb j).get hp fun ob => ob.ofS es (forceN (Nat.add off a) fun off' => forceN (Nat.sub b a) fun m => forceB (full && Nat.beq b len) fun f => k (.sl j off' m f) hs))
        (fun s rows => must (Nat.beq s es) (forceN rows.length fun len => boundK low high tm len fun a b => partK a (Nat.sub b a) rows fun rows' => k (.ro s rows') hs)) (fun w => must (isNilSl w) (boundK low high tm 0 fun _ _ => k v hs))) h fr hp nx
      rcases V.onNilS_inv h with ⟨j, off, len, full, hx, h⟩ | ⟨s, rows, hx, h⟩ | ⟨w, hx, h⟩
      · obtain ⟨a, b, h1, h2, h3, h4, h⟩ := boundK_inv h fr hp nx
        obtain ⟨ob, h5, h⟩ := ob_inv h
        obtain ⟨⟨y, h6, hmp, h7⟩, h⟩ := KOb.ofS_inv h
        rw [forceN_eq, forceN_eq, forceB_eq] at h
        exact ⟨_, h, fun C => qq_sliceSl ho hx (tiOf_ok hti) rfl (h5.trans h6) h7 h1 h2 h3 h4⟩
      · obtain ⟨h0, g1⟩ := must_inv h
        have h5 := Nat.eq_of_beq_eq_true h0
        subst h5
        rw [forceN_eq] at g1
        obtain ⟨a, b, h1, h2, h3, h4, g2⟩ := boundK_inv g1 fr hp nx
        exact ⟨_, partK_inv (k := fun rows' => k (.ro s rows') hs) g2, fun C => qq_sliceRo ho hx (tiOf_ok hti) rfl h1 h2 h3 h4⟩
      · obtain ⟨h0, h⟩ := must_inv h
        have hw := isNilSl_ok h0
        subst hw
        obtain ⟨a, b, h1, h2, h3, h4, h⟩ := boundK_inv h fr hp nx
        have hb : b = 0 := by omega
        subst hb
        have ha : a = 0 := by omega
        subst ha
        rw [hx] at h
        exact ⟨_, h, fun C => qq_sliceNil ho hx (tiOf_ok hti) rfl h1 h2⟩
  · exact qspec_bad

/-! ### Interfaces -/

noncomputable def qIface (P : Program) (t : TypeId) (x : Operand) : QOp := match isIface P t with
  | some false => q1 x fun v _ hs k => k (.ifc t v) hs
  | _ => qbad 127
theorem qIface_spec {i : Nat} {o : Oper} {t : TypeId} {x : Operand} (ho : o.op = .makeInterface t x) : QSpec ρ P i o (qIface P t x) := by
  unfold qIface
  split
  · rename_i ht
    exact q1_spec fun fr tm hp nx hs k vx hx h => ⟨_, h, fun C => hx ▸ qq_makeInterface ho ht⟩
  · exact qspec_bad

noncomputable def qAssert (P : Program) (t : TypeId) (x : Operand) : QOp := match isIface P t with
  | some false => q1 x fun v _ hs k => v.onNilI (fun u q => boolK (Nat.beq u t) (k (.tup [q, .bool true]) hs) (optK (zeroV P t) fun z => k (.tup [z, .bool false]) hs)) (fun w => must (isNilIf w) (optK (zeroV P t) fun z => k (.tup [z, .bool false]) hs))
  | _ => qbad 128
theorem qAssert_spec {i : Nat} {o : Oper} {t xt : TypeId} {x : Operand} (ho : o.op = .typeAssert x xt t true) : QSpec ρ P i o (qAssert P t x) := by
  unfold qAssert
  split
  · rename_i ht
    exact q1_spec fun fr tm hp nx hs k vx hx h => by
      rcases V.onNilI_inv h with ⟨u, q, rfl, h8⟩ | ⟨w, rfl, h8⟩
      · rcases boolK_inv h8 with ⟨h1, h9⟩ | ⟨h1, h9⟩
        · exact ⟨_, h9, fun C => qq_assert ho hx ht (Nat.eq_of_beq_eq_true h1)⟩
        · obtain ⟨z, h2, h9⟩ := optK_inv h9
          exact ⟨_, h9, fun C => qq_assertNot ho hx ht (beq_false' h1) h2⟩
      · obtain ⟨h1, h9⟩ := must_inv h8
        have hw := isNilIf_ok h1
        subst hw
        obtain ⟨z, h2, h9⟩ := optK_inv h9
        exact ⟨_, h9, fun C => qq_assertNil ho hx ht h2⟩
  · exact qspec_bad

noncomputable def qMin (x y : Operand) : QOp := q2 x y fun v u _ hs k => intsK v u fun kd m n => natZ m n (fun a b => boolK (Nat.ble a b) (k (.int kd (.ofNat a)) hs) (k (.int kd (.ofNat b)) hs)) (.err 129)
theorem qMin_spec {i : Nat} {o : Oper} {x y : Operand} {ats : Array TypeId} (ho : o.op = .call { callee := .builtin .min, args := #[x, y], argTypes := ats }) : QSpec ρ P i o (qMin x y) :=
  q2_spec fun fr tm hp nx hs k vx vy hx hy h => by
    obtain ⟨kd, m, n, rfl, rfl, h7⟩ := intsK_inv h
    rcases natZ_inv h7 with ⟨a, b, rfl, rfl, h9⟩ | h9
    · rcases boolK_inv h9 with ⟨h1, h9⟩ | ⟨h1, h9⟩
      · refine ⟨_, h9, fun C => ?_⟩
        have := qq_min (ρ := ρ) (P := P) (C := C) ho hx hy
        rw [if_neg (by have := Nat.le_of_ble_eq_true h1; show ¬ ((b : Int) < (a : Int)); omega)] at this
        exact this
      · refine ⟨_, h9, fun C => ?_⟩
        have := qq_min (ρ := ρ) (P := P) (C := C) ho hx hy
        rw [if_pos (by have := ble_false h1; show ((b : Int) < (a : Int)); omega)] at this
        exact this
    · exact Ans.no h9

noncomputable def qMax (x y : Operand) : QOp := q2 x y fun v u _ hs k => intsK v u fun kd m n => natZ m n (fun a b => boolK (Nat.ble b a) (k (.int kd (.ofNat a)) hs) (k (.int kd (.ofNat b)) hs)) (forceB (decide (n > m)) fun b => boolK b (k (.int kd n) hs) (k (.int kd m) hs))
theorem qMax_spec {i : Nat} {o : Oper} {x y : Operand} {ats : Array TypeId} (ho : o.op = .call { callee := .builtin .max, args := #[x, y], argTypes := ats }) : QSpec ρ P i o (qMax x y) :=
  q2_spec fun fr tm hp nx hs k vx vy hx hy h => by
    obtain ⟨kd, m, n, rfl, rfl, h7⟩ := intsK_inv h
    have key := fun C => qq_max (ρ := ρ) (P := P) (C := C) ho hx hy
    rcases natZ_inv h7 with ⟨a, b, rfl, rfl, h9⟩ | h9
    · rcases boolK_inv h9 with ⟨h1, h9⟩ | ⟨h1, h9⟩
      · refine ⟨_, h9, fun C => ?_⟩
        have := key C
        rw [if_neg (by have := Nat.le_of_ble_eq_true h1; show ¬ ((b : Int) > (a : Int)); omega)] at this
        exact this
      · refine ⟨_, h9, fun C => ?_⟩
        have := key C
        rw [if_pos (by have := ble_false h1; show ((b : Int) > (a : Int)); omega)] at this
        exact this
    · rw [forceB_eq] at h9
      rcases boolK_inv h9 with ⟨h1, h9⟩ | ⟨h1, h9⟩
      · refine ⟨_, h9, fun C => ?_⟩
        have := key C
        rw [if_pos (of_decide_eq_true h1)] at this
        exact this
      · refine ⟨_, h9, fun C => ?_⟩
        have := key C
        rw [if_neg (of_decide_eq_false h1)] at this
        exact this

/-! ### Structs -/

noncomputable def lenIs (n : Nat) : List V → Ans → Ans :=
  Nat.rec (motive := fun _ => List V → Ans → Ans) (fun l y => List.rec (motive := fun _ => AnsT) y (fun _ _ _ => .err 63) l) (fun _ ih l y => List.rec (motive := fun _ => AnsT) (.err 63) (fun _ t _ => ih t y) l) n
theorem lenIs_inv : ∀ {n : Nat} {l : List V} {y : Ans}, lenIs n l y = .ok → l.length = n ∧ y = .ok
  | 0, [], _, h => ⟨rfl, h⟩
  | 0, _ :: _, _, h => Ans.no h
  | n + 1, [], _, h => Ans.no h
  | n + 1, q :: l, y, h => by
    obtain ⟨h1, h2⟩ := lenIs_inv (n := n) (l := l) (y := y) h
    exact ⟨by simp [h1], h2⟩

structure Bld where
  run : Tm → List V → (List V → Ans) → Ans
noncomputable def bld (fs : List (Nat × Nat × Bool)) (parts : List (Nat × Operand)) : Bld :=
  List.rec (motive := fun _ => Bld) ⟨fun _ row k => k row⟩ (fun p _ ih => match placeOf fs p.1 with
    | some (off, size) => ⟨fun tm row k => (opd p.2).get tm fun v => v.onCells fun l => lenIs size l (allOne l ((spl off).run row l fun row' => ih.run tm row' k))⟩
    | none => ⟨fun _ _ _ => .err 64⟩) parts
theorem bld_inv {fs : List (Nat × Nat × Bool)} : ∀ {parts : List (Nat × Operand)} {tm : Tm} {row : List V} {k : List V → Ans} (h : (bld fs parts).run tm row k = .ok) (fr : Fr) (hp : Hp) (nx : Nat),
    ∃ row', fillV (placeOf fs) row (evalParts (absS fr tm hp nx) parts) = some row' ∧ k row' = .ok
  | [], tm, row, k, h, fr, hp, nx => ⟨row, rfl, h⟩
  | (i, x) :: parts, tm, row, k, h, fr, hp, nx => by
    have h : (match placeOf fs i with
      | some (off, size) => (⟨fun tm row k => (opd x).get tm fun v => v.onCells fun l => lenIs size l (allOne l ((spl off).run row l fun row' => (bld fs parts).run tm row' k))⟩ : Bld)
      | none => ⟨fun _ _ _ => .err 64⟩).run tm row k = .ok := h
    split at h
    · rename_i off size hpl
      have h := opd_inv (k := fun v => v.onCells fun l => lenIs size l (allOne l ((spl off).run row l fun row' => (bld fs parts).run tm row' k))) h fr hp nx
      rw [V.onCells_eq] at h
      obtain ⟨h1, h⟩ := lenIs_inv h
      obtain ⟨h2, h⟩ := allOne_inv h
      obtain ⟨h3, h⟩ := spl_inv h
      obtain ⟨row', h4, h⟩ := bld_inv h fr hp nx
      refine ⟨row', ?_, h⟩
      unfold evalParts fillV
      simp only [hpl]
      have g1 : Nat.beq (cellsV (evalV (absS fr tm hp nx) x)).length size = true := by rw [h1]; exact Nat.beq_refl _
      have g2 : Nat.ble (off + size) row.length = true := Nat.ble_eq_true_of_le (by omega)
      rw [g1, g2, h2]
      exact h4
    · exact Ans.no h

noncomputable def qBuild (P : Program) (t : TypeId) (parts : List (Nat × Operand)) : QOp := match tiOf P t with
  | some ⟨_, .struct fs, z⟩ => ⟨fun tm _ hs k => (bld fs parts).run tm (z.map cv) fun row => listK row fun row => k (.agg row) hs⟩
  | _ => qbad 130
theorem qBuild_spec {i : Nat} {o : Oper} {t : TypeId} {parts : Array (Nat × Operand)} (ho : o.op = .build t parts) : QSpec ρ P i o (qBuild P t parts.toList) := by
  unfold qBuild
  split
  · rename_i hti
    exact qspec_of fun fr tm hp nx hs k h => by
      obtain ⟨row, h1, h⟩ := bld_inv (k := fun row => listK row fun row => k (.agg row) hs) h fr hp nx
      rw [listK_eq] at h
      exact ⟨_, h, fun C => qq_build ho (tiOf_ok hti) rfl h1⟩
  · exact qspec_bad

/-! ### Which is which -/

theorem arr_of {α : Type} {a : Array α} {l : List α} (h : a.toList = l) : a = l.toArray := by rw [← h]

noncomputable def qCap (P : Program) (x : Operand) (t : TypeId) : QOp := match P.underlying t with
  | some (.slice _) => q1 x fun v _ hs k => v.onSl (fun _ _ len full => must full (k (.int .i64 (.ofNat len)) hs)) (fun w => must (isNilSl w) (k (.int .i64 (.ofNat 0)) hs))
  | _ => qbad 160
theorem qCap_spec {i : Nat} {o : Oper} {x : Operand} {t : TypeId} (ho : o.op = .call { callee := .builtin .cap, args := #[x], argTypes := #[t] }) : QSpec ρ P i o (qCap P x t) := by
  unfold qCap
  split
  · rename_i e hu
    intro fr tm hp nx hs k h
    have h := opd_inv (k := fun v => v.onSl (fun _ _ len full => must full (k (.int .i64 (.ofNat len)) hs)) (fun w => must (isNilSl w) (k (.int .i64 (.ofNat 0)) hs))) h fr hp nx
    rcases V.onSl_inv h with ⟨j, off, len, full, hx, h⟩ | ⟨w, hx, h⟩
    · obtain ⟨h1, h⟩ := must_inv h
      subst h1
      exact ⟨_, [], h, qq_cap ho hu hx⟩
    · obtain ⟨h1, h⟩ := must_inv h
      have hw := isNilSl_ok h1
      subst hw
      exact ⟨_, [], h, qq_cap_nil ho hu hx⟩
  · exact qspec_bad

/-- A builtin that only looks. -/
noncomputable def qcall (P : Program) (c : Call) : Option QOp := match c.callee with
  | .builtin .len => match c.args.toList, c.argTypes.toList with
    | [x], [t] => some (qLen P x t)
    | _, _ => none
  | .builtin .min => match c.args.toList with
    | [x, y] => some (qMin x y)
    | _ => none
  | .builtin .max => match c.args.toList with
    | [x, y] => some (qMax x y)
    | _ => none
  | .builtin .cap => match c.args.toList, c.argTypes.toList with
    | [x], [t] => some (qCap P x t)
    | _, _ => none
  | _ => none
theorem qcall_spec {i : Nat} {o : Oper} {q : QOp} {c : Call} (ho : o.op = .call c) (h : qcall P c = some q) : QSpec ρ P i o q := by
  obtain ⟨callee, args, ats⟩ := c
  unfold qcall at h
  simp only at h
  split at h
  · split at h
    · rename_i x t hx ht
      cases h
      refine qLen_spec ?_
      rw [arr_of hx, arr_of ht] at ho
      exact ho
    · cases h
  · split at h
    · rename_i x y hx
      cases h
      rw [arr_of hx] at ho
      exact qMin_spec ho
    · cases h
  · split at h
    · rename_i x y hx
      cases h
      rw [arr_of hx] at ho
      exact qMax_spec ho
    · cases h
  · split at h
    · rename_i x t hx ht
      cases h
      refine qCap_spec ?_
      rw [arr_of hx, arr_of ht] at ho
      exact ho
    · cases h
  · cases h

/-- An operation that only looks; none: it does more. -/
noncomputable def qop (P : Program) (i : Nat) (o : Oper) : Option QOp := match o.op with
  | .move x => some (qMove x)
  | .assign x => some (qMove x)
  | .pick c x y => some (qPick c x y)
  | .nilCheck x => some (qNil x)
  | .extract x j => some (qExtract x j)
  | .unOp op _ x => some (match op with
    | .not => qNot x
    | .neg => qNeg x
    | .xor => qCpl x
    | .plus => qbad 149)
  | .makeFunc (.func f) first caps => match first.toList with
    | [] => some (qFn f caps.toList)
    | l => match caps.toList with
      | [] => some (qBnd f l)
      | _ => none
  | .fieldAddr t x j => some (qFieldAddr P t x j)
  | .load t x => some (qLoad P i t x)
  | .field t x j => some (qField P t x j)
  | .indexAddr t x y => some (qIndexAddr P t x y)
  | .index t x y => some (qIndex P t x y)
  | .binOp op t x y _ => some (qBin P op t x y)
  | .convert t u x => match StrBytes P t u || SelfBytes P t u with
    | true => none
    | false => some (qConv P i t u x)
  | .slice t x low high none => some (qSlice P t x low high)
  | .makeInterface t x => some (qIface P t x)
  | .typeAssert x _ t true => some (qAssert P t x)
  | .build t parts => some (qBuild P t parts.toList)
  | .call c => qcall P c
  | _ => none

theorem qop_spec {i : Nat} {o : Oper} {q : QOp} (h : qop P i o = some q) : QSpec ρ P i o q := by
  unfold qop at h
  split at h
  case h_1 h1 => cases h; exact qMove_spec (.inl h1)
  case h_2 h1 => cases h; exact qMove_spec (.inr h1)
  case h_3 h1 => cases h; exact qPick_spec h1
  case h_4 h1 => cases h; exact qNil_spec h1
  case h_5 h1 => cases h; exact qExtract_spec h1
  case h_6 op _ _ h1 =>
    cases h
    cases op
    · exact qNeg_spec h1
    · exact qCpl_spec h1
    · exact qNot_spec h1
    · exact qspec_bad
  case h_7 h1 =>
    split at h
    · rename_i hf
      cases h
      rw [arr_of hf] at h1
      exact qFn_spec h1
    · split at h
      · rename_i hf
        cases h
        rw [arr_of hf] at h1
        exact qBnd_spec h1
      · cases h
  case h_8 h1 => cases h; exact qFieldAddr_spec h1
  case h_9 h1 => cases h; exact qLoad_spec h1
  case h_10 h1 => cases h; exact qField_spec h1
  case h_11 h1 => cases h; exact qIndexAddr_spec h1
  case h_12 h1 => cases h; exact qIndex_spec h1
  case h_13 h1 => cases h; exact qBin_spec h1
  case h_14 h1 =>
    split at h
    · cases h
    · cases h; exact qConv_spec h1
  case h_15 h1 => cases h; exact qSlice_spec h1
  case h_16 h1 => cases h; exact qIface_spec h1
  case h_17 h1 => cases h; exact qAssert_spec h1
  case h_18 h1 => cases h; exact qBuild_spec h1
  case h_19 h1 => exact qcall_spec h1 h
  case h_20 => cases h

end Go.Proofs.YtibmbbogjkecoaaDoor.M

/- Operations that make, write, call, as the kernel runs them. -/
namespace Go.Proofs.YtibmbbogjkecoaaDoor.M
open Go Go.RowKit
set_option linter.unusedSimpArgs false
set_option linter.unusedVariables false

variable {ρ : Nat → Value} {P : Program}

/-- A call: function, arguments, objects that may not be written, objects, next number; what comes behind it. -/
@[reducible] def CallT : Type := FuncId → List V → List PC → Hp → Nat → (V → Hp → Nat → Ans) → (V → Hp → Nat → Ans) → Ans

structure Env where
  call : CallT
  forb : List PC
  kx : Nat → K3
  kr : K3
  kp : V → K3
  lm : Bool

def KE (fr : Fr) (E : Env) (kn : K3) : Ex → St → Prop
  | .normal, σ => NK fr kn σ
  | .exit id, σ => NK fr (E.kx id) σ
  | .ret, σ => NK fr E.kr σ
  | .panic v, σ => NK fr (E.kp v) σ

def RK (kr kp : V → Hp → Nat → Ans) : Out → Objs → Nat → Prop
  | .ret v, O, n => ∃ hp, O = absO hp ∧ kr v hp n = .ok
  | .panic v, O, n => ∃ hp, O = absO hp ∧ kp v hp n = .ok

def CallOK (ρ : Nat → Value) (P : Program) (c : CallT) : Prop :=
  ∀ f args forb hp nx kr kp, c f args forb hp nx kr kp = .ok → QCalls ρ P f args (absO hp) nx (inL forb) (RK kr kp)

structure LOp where
  run : Env → List PC → Tm → Hp → Nat → K3 → Ans

def lbad (n : Nat) : LOp := ⟨fun _ _ _ _ _ _ => .err n⟩

def LSpec (ρ : Nat → Value) (P : Program) (o : Oper) (l : LOp) : Prop :=
  ∀ (fr : Fr) (E : Env) (cs : List PC) (tm : Tm) (hp : Hp) (nx : Nat) (k kn : K3), E.forb = fr.forb → CallOK ρ P E.call → (∀ t, o.dst = some t → t < fr.n) → l.run E cs tm hp nx k = .ok →
    QO ρ P (inL cs) o (absS fr tm hp nx) (NK fr k) (KE fr E kn)

theorem lspec_bad {n : Nat} {o : Oper} : LSpec ρ P o (lbad n) := fun _ _ _ _ _ _ _ _ _ _ _ h => Ans.no h

/-- The slot that is written. -/
structure Upd where
  run : Tm → V → (Tm → Ans) → Ans
noncomputable def updD (d : Option Tmp) : Upd := match d with
  | none => ⟨fun tm _ k => k tm⟩
  | some t => Bool.rec ⟨fun _ _ _ => .err 70⟩ ⟨fun tm v k => (acc2 V t).upd tm v k⟩ (Nat.ble (Nat.succ t) 255)
theorem updD_inv {d : Option Tmp} {tm : Tm} {v : V} {k : Tm → Ans} (h : (updD d).run tm v k = .ok) : ∃ tm', k tm' = .ok ∧ ∀ (fr : Fr) (hp : Hp) (nx : Nat), (absS fr tm hp nx).put d v = absS fr tm' hp nx := by
  cases d with
  | none => exact ⟨tm, h, fun _ _ _ => rfl⟩
  | some t =>
    have h : (Bool.rec (motive := fun _ => Upd) ⟨fun _ _ _ => .err 70⟩ ⟨fun tm v k => (acc2 V t).upd tm v k⟩ (Nat.ble (Nat.succ t) 255)).run tm v k = .ok := h
    cases e : Nat.ble (Nat.succ t) 255 with
    | false => rw [e] at h; exact Ans.no h
    | true =>
      rw [e] at h
      obtain ⟨_, h2⟩ := acc2_upd h
      have ht : t < 255 := Nat.le_of_ble_eq_true e
      exact ⟨_, h2, fun fr hp nx => abs_put ht⟩

/-! ### New objects -/

noncomputable def newK (d : Option Tmp) (ob : KOb) (v : V) (tm : Tm) (hp : Hp) (nx : Nat) (k : K3) : Ans :=
  (acc4 KOb nx).upd hp ob fun hp' => (updD d).run tm v fun tm' => forceN (Nat.succ nx) fun nx' => k tm' hp' nx'
theorem newK_inv {d : Option Tmp} {ob : KOb} {v : V} {tm : Tm} {hp : Hp} {nx : Nat} {k : K3} (h : newK d ob v tm hp nx k = .ok) (fr : Fr) :
    NK fr k (({ absS fr tm hp nx with objs := Objs.put (absO hp) nx (absK ob), next := nx + 1 } : St).put d v) := by
  obtain ⟨h1, h⟩ := acc4_upd h
  obtain ⟨tm', h, h2⟩ := updD_inv h
  rw [forceN_eq] at h
  refine ⟨tm', put4 hp nx ob, nx + 1, ?_, h⟩
  rw [← h2, ← absO_put h1]
  rfl

noncomputable def lAlloc (P : Program) (d : Option Tmp) (t : TypeId) : LOp := match tiOf P t with
  | some ti => match (ti.zero.map cv).all V.one with
    | true => ⟨fun E _ tm hp nx k => boolK E.lm (listK (ti.zero.map cv) fun z => newK d (.cell z) (.ptr nx 0 0) tm hp nx k) (newK d (.cell (ti.zero.map cv)) (.ptr nx 0 0) tm hp nx k)⟩
    | false => lbad 131
  | none => lbad 132
theorem lAlloc_spec {o : Oper} {t : TypeId} (ho : o.op = .alloc t) : LSpec ρ P o (lAlloc P o.dst t) := by
  unfold lAlloc
  split
  · rename_i ti hti
    split
    · rename_i hone
      intro fr E cs tm hp nx k kn hf hc hd h
      have h : newK o.dst (.cell (ti.zero.map cv)) (.ptr nx 0 0) tm hp nx k = .ok := by
        rcases boolK_inv h with ⟨_, h⟩ | ⟨_, h⟩
        · rw [listK_eq] at h; exact h
        · exact h
      exact qo_alloc ho (tiOf_ok hti) rfl hone hd (newK_inv h fr)
    · exact lspec_bad
  · exact lspec_bad

noncomputable def lBox (d : Option Tmp) (x : Operand) : LOp := ⟨fun _ _ tm hp nx k => (opd x).get tm fun v => v.onCells fun l => allOne l (newK d (.cell l) (.ptr nx 0 0) tm hp nx k)⟩
theorem lBox_spec {o : Oper} {t : TypeId} {x : Operand} (ho : o.op = .box t x) : LSpec ρ P o (lBox o.dst x) := by
  intro fr E cs tm hp nx k kn hf hc hd h
  have h := opd_inv (k := fun v => v.onCells fun l => allOne l (newK o.dst (.cell l) (.ptr nx 0 0) tm hp nx k)) h fr hp nx
  rw [V.onCells_eq] at h
  obtain ⟨h1, h⟩ := allOne_inv h
  exact qo_box ho rfl h1 hd (newK_inv h fr)

/-! ### Rows -/

/-- Rows into sixteen, from the i-th on. -/
noncomputable def rows1 (l : List (List V)) : Nat → N16 (List V) → (N16 (List V) → Ans) → Ans :=
  List.rec (motive := fun _ => Nat → N16 (List V) → (N16 (List V) → Ans) → Ans) (fun _ t k => k t) (fun row _ ih i t k => (acc (List V) i).upd t row fun t' => forceN (Nat.succ i) fun j => ih j t' k) l
theorem rows1_inv : ∀ {l : List (List V)} {i : Nat} {t : N16 (List V)} {k : N16 (List V) → Ans}, rows1 l i t k = .ok → ∃ t', k t' = .ok ∧ i + l.length ≤ max i 16 ∧ ∀ j, j < 16 → t'.get j = if i ≤ j ∧ j < i + l.length then (l[j - i]?).getD [] else t.get j
  | [], i, t, k, h => ⟨t, h, by simp only [List.length_nil]; omega, fun j hj => by rw [if_neg (by simp)]⟩
  | row :: l, i, t, k, h => by
    obtain ⟨h1, h⟩ := acc_upd h
    rw [forceN_eq] at h
    obtain ⟨t', h2, h3, h4⟩ := rows1_inv (l := l) h
    refine ⟨t', h2, by simp; omega, fun j hj => ?_⟩
    rw [h4 j hj, N16.get_put _ _ _ _ h1 hj]
    simp only [List.length_cons]
    by_cases e : j = i
    · subst e
      rw [if_neg (by omega), if_pos rfl, if_pos (by omega)]
      simp
    · rw [if_neg e]
      by_cases e2 : i + 1 ≤ j ∧ j < i + 1 + l.length
      · rw [if_pos e2, if_pos (by omega)]
        obtain ⟨m, hm⟩ : ∃ m, j - i = m + 1 := ⟨j - i - 1, by omega⟩
        rw [hm, show j - (i + 1) = m by omega]
        simp
      · rw [if_neg e2, if_neg (by omega)]

noncomputable def rows3 (l : List (List V)) : Nat → N16 (N16 (N16 (List V))) → (N16 (N16 (N16 (List V))) → Ans) → Ans :=
  List.rec (motive := fun _ => Nat → N16 (N16 (N16 (List V))) → (N16 (N16 (N16 (List V))) → Ans) → Ans) (fun _ t k => k t) (fun row _ ih i t k => (acc3 (List V) i).upd t row fun t' => forceN (Nat.succ i) fun j => ih j t' k) l
theorem rows3_inv : ∀ {l : List (List V)} {i : Nat} {t : N16 (N16 (N16 (List V)))} {k : N16 (N16 (N16 (List V))) → Ans}, rows3 l i t k = .ok → ∃ t', k t' = .ok ∧ i + l.length ≤ max i 4096 ∧ ∀ j, j < 4096 → get3 t' j = if i ≤ j ∧ j < i + l.length then (l[j - i]?).getD [] else get3 t j
  | [], i, t, k, h => ⟨t, h, by simp only [List.length_nil]; omega, fun j hj => by rw [if_neg (by simp)]⟩
  | row :: l, i, t, k, h => by
    obtain ⟨h1, h⟩ := acc3_upd h
    rw [forceN_eq] at h
    obtain ⟨t', h2, h3, h4⟩ := rows3_inv (l := l) h
    refine ⟨t', h2, by simp; omega, fun j hj => ?_⟩
    rw [h4 j hj, get_put3 _ _ _ _ h1 hj]
    simp only [List.length_cons]
    by_cases e : j = i
    · subst e
      rw [if_neg (by omega), if_pos rfl, if_pos (by omega)]
      simp
    · rw [if_neg e]
      by_cases e2 : i + 1 ≤ j ∧ j < i + 1 + l.length
      · rw [if_pos e2, if_pos (by omega)]
        obtain ⟨m, hm⟩ : ∃ m, j - i = m + 1 := ⟨j - i - 1, by omega⟩
        rw [hm, show j - (i + 1) = m by omega]
        simp
      · rw [if_neg e2, if_neg (by omega)]

def none1 : N16 (List V) := N16.all []
def none3 : N16 (N16 (N16 (List V))) := N16.all (N16.all none1)
def wide (t : N16 (List V)) : N16 (N16 (N16 (List V))) := (N16.all (N16.all none1)).put 0 ((N16.all none1).put 0 t)
theorem wide_get (t : N16 (List V)) (j : Nat) (hj : j < 16) : get3 (wide t) j = t.get j := by
  unfold get3 get2 wide
  have e1 : j / 256 = 0 := by omega
  have e2 : j % 256 / 16 = 0 := by omega
  have e3 : j % 256 % 16 = j := by omega
  rw [e1, e2, e3]
  rfl

/-- The rows of l lie behind the first len rows of an object. -/
noncomputable def joinK (ob : KOb) (es len : Nat) (l : List (List V)) (m : Nat) (k : KOb → Ans) : Ans :=
  forceN (Nat.add len m) fun n => KOb.rec (motive := fun _ => AnsT) (.err 71) (fun _ => .err 72)
    (fun _ n0 t => must (Nat.ble len n0) (boolK (Nat.ble n 16) (rows1 l len t fun t' => k (.a1 es n t')) (rows3 l len (wide t) fun t' => must (Nat.ble n 4096) (must (Nat.ble len 16) (k (.a3 es n t'))))))
    (fun _ n0 t => must (Nat.ble len n0) (rows3 l len t fun t' => must (Nat.ble n 4096) (k (.a3 es n t'))))
    (fun _ rows => must (Nat.ble len rows.length) (k (.ls es (rows.take len ++ l)))) (fun _ => .err 73) ob

theorem joinK_inv {ob : KOb} {es len m : Nat} {l : List (List V)} {k : KOb → Ans} (hm : l.length = m) (h : joinK ob es len l m k = .ok) : ∃ x ob', absK ob = some x ∧ k ob' = .ok ∧ absK ob' = some ⟨es, appRow len x.row (fun r => l[r]?) m, false⟩ := by
  unfold joinK at h
  rw [forceN_eq] at h
  have fin : ∀ {N n0 : Nat} {g g' : Nat → List V}, len ≤ n0 → len + m ≤ N → (∀ j, j < N → g' j = if len ≤ j ∧ j < len + l.length then (l[j - len]?).getD [] else if j < len then g j else g' j) → ∀ r,
      (if r < len + m then (if r < N then some (g' r) else none) else none) = appRow len (fun r => if r < n0 then (if r < N then some (g r) else none) else none) (fun r => l[r]?) m r := by
    intro N n0 g g' h1 h2 h3 r
    unfold appRow
    by_cases e : r < len
    · rw [if_pos e, if_pos (by omega), if_pos (by omega)]
      show some (g' r) = if r < n0 then (if r < N then some (g r) else none) else none
      rw [if_pos (by omega), if_pos (by omega)]
      have := h3 r (by omega)
      rw [if_neg (by omega), if_pos e] at this
      rw [this]
    · rw [if_neg e]
      by_cases e2 : r < len + m
      · rw [if_pos e2, if_pos e2, if_pos (by omega)]
        have := h3 r (by omega)
        rw [if_pos (by omega)] at this
        show some (g' r) = l[r - len]?
        rw [this, List.getElem?_eq_getElem (by omega)]
        rfl
      · rw [if_neg e2, if_neg e2]
  cases ob with
  | no => exact Ans.no h
  | cell row => exact Ans.no h
  | a1 s n0 t =>
    obtain ⟨h1, h⟩ := must_inv h
    have h1 := Nat.le_of_ble_eq_true h1
    rcases boolK_inv h with ⟨h2, h⟩ | ⟨h2, h⟩
    · obtain ⟨t', h3, h4, h5⟩ := rows1_inv h
      refine ⟨_, _, rfl, h3, congrArg some ?_⟩
      have h2 := Nat.le_of_ble_eq_true h2
      have h2 : len + m ≤ 16 := h2
      congr 1
      funext r
      refine fin (n0 := n0) (g := fun r => t.get r) h1 h2 (fun j hj => ?_) r
      rw [h5 j hj]
      by_cases e : len ≤ j ∧ j < len + l.length
      · rw [if_pos e, if_pos e]
      · rw [if_neg e, if_neg e]
        split <;> rfl
    · obtain ⟨t', h3, h4, h5⟩ := rows3_inv h
      obtain ⟨h6, h⟩ := must_inv h3
      obtain ⟨h7, h⟩ := must_inv h
      have h6 : len + m ≤ 4096 := Nat.le_of_ble_eq_true h6
      have h7 := Nat.le_of_ble_eq_true h7
      refine ⟨_, _, rfl, h, congrArg some ?_⟩
      have e0 : (⟨es, appRow len (fun r => if r < n0 then (if r < 16 then some (t.get r) else none) else none) (fun r => l[r]?) m, false⟩ : Ob) = ⟨es, appRow len (fun r => if r < n0 then (if r < 4096 then some (get3 (wide t) r) else none) else none) (fun r => l[r]?) m, false⟩ := by
        congr 1
        funext r
        unfold appRow
        by_cases e : r < len
        · rw [if_pos e, if_pos e]
          show (if r < n0 then (if r < 16 then some (t.get r) else none) else none) = if r < n0 then (if r < 4096 then some (get3 (wide t) r) else none) else none
          rw [if_pos (by omega), if_pos (by omega), if_pos (by omega), if_pos (by omega), wide_get t r (by omega)]
        · rw [if_neg e, if_neg e]
      show _ = (⟨es, appRow len (fun r => if r < n0 then (if r < 16 then some (t.get r) else none) else none) (fun r => l[r]?) m, false⟩ : Ob)
      rw [e0]
      congr 1
      funext r
      refine fin (n0 := n0) (g := fun r => get3 (wide t) r) h1 h6 (fun j hj => ?_) r
      rw [h5 j hj]
      by_cases e : len ≤ j ∧ j < len + l.length
      · rw [if_pos e, if_pos e]
      · rw [if_neg e, if_neg e]
        split <;> rfl
  | a3 s n0 t =>
    obtain ⟨h1, h⟩ := must_inv h
    have h1 := Nat.le_of_ble_eq_true h1
    obtain ⟨t', h3, h4, h5⟩ := rows3_inv h
    obtain ⟨h6, h⟩ := must_inv h3
    have h6 : len + m ≤ 4096 := Nat.le_of_ble_eq_true h6
    refine ⟨_, _, rfl, h, congrArg some ?_⟩
    congr 1
    funext r
    refine fin (n0 := n0) (g := fun r => get3 t r) h1 h6 (fun j hj => ?_) r
    rw [h5 j hj]
    by_cases e : len ≤ j ∧ j < len + l.length
    · rw [if_pos e, if_pos e]
    · rw [if_neg e, if_neg e]
      split <;> rfl
  | ls s rows =>
    obtain ⟨h1, h⟩ := must_inv h
    have h1 := Nat.le_of_ble_eq_true h1
    refine ⟨_, _, rfl, h, congrArg some ?_⟩
    show (⟨es, fun r => (rows.take len ++ l)[r]?, false⟩ : Ob) = ⟨es, appRow len (fun r => rows[r]?) (fun r => l[r]?) m, false⟩
    congr 1
    funext r
    unfold appRow
    rw [List.getElem?_append]
    have hlen : (rows.take len).length = len := by rw [List.length_take]; omega
    rw [hlen]
    by_cases e : r < len
    · rw [if_pos e, if_pos e, List.getElem?_take, if_pos e]
    · rw [if_neg e, if_neg e]
      by_cases e2 : r < len + m
      · rw [if_pos e2]
      · rw [if_neg e2, List.getElem?_eq_none (by omega)]
  | mp rows => exact Ans.no h

/-- A new object out of rows. -/
noncomputable def ofRows (es : Nat) (l : List (List V)) (n : Nat) (k : KOb → Ans) : Ans := joinK (.a1 es Nat.zero none1) es Nat.zero l n k
theorem ofRows_inv {es n : Nat} {l : List (List V)} {k : KOb → Ans} (hn : l.length = n) (h : ofRows es l n k = .ok) : ∃ ob, k ob = .ok ∧ absK ob = some (rowsOb es l) := by
  obtain ⟨x, ob, h1, h2, h3⟩ := joinK_inv hn h
  refine ⟨ob, h2, ?_⟩
  rw [h3]
  unfold rowsOb
  congr 2
  funext r
  unfold appRow
  rw [if_neg (by show ¬ r < 0; omega)]
  show (if r < 0 + n then l[r - 0]? else none) = l[r]?
  split
  · rfl
  · rw [List.getElem?_eq_none (by omega)]

/-- Rows as the parts say. -/
structure Prt where
  run : Tm → (List (List V) → Ans) → Ans
noncomputable def prt (es : Nat) (parts : List (Nat × Operand)) : Nat → Prt :=
  List.rec (motive := fun _ => Nat → Prt) (fun _ => ⟨fun _ k => k []⟩) (fun p _ ih n => match Nat.beq p.1 n with
    | true => ⟨fun tm k => (opd p.2).get tm fun v => v.onCells fun c => lenIs es c (allOne c ((ih (Nat.succ n)).run tm fun l => k (c :: l)))⟩
    | false => ⟨fun _ _ => .err 73⟩) parts
theorem prt_inv {es : Nat} : ∀ {parts : List (Nat × Operand)} {n : Nat} {tm : Tm} {k : List (List V) → Ans} (h : (prt es parts n).run tm k = .ok) (fr : Fr) (hp : Hp) (nx : Nat),
    ∃ rows, rowsP es n (evalParts (absS fr tm hp nx) parts) = some rows ∧ rows.length = parts.length ∧ k rows = .ok
  | [], n, tm, k, h, fr, hp, nx => ⟨[], rfl, rfl, h⟩
  | (i, x) :: parts, n, tm, k, h, fr, hp, nx => by
    have h : (match Nat.beq i n with
      | true => (⟨fun tm k => (opd x).get tm fun v => v.onCells fun c => lenIs es c (allOne c ((prt es parts (Nat.succ n)).run tm fun l => k (c :: l)))⟩ : Prt)
      | false => ⟨fun _ _ => .err 73⟩).run tm k = .ok := h
    split at h
    · rename_i hi
      have h := opd_inv (k := fun v => v.onCells fun c => lenIs es c (allOne c ((prt es parts (Nat.succ n)).run tm fun l => k (c :: l)))) h fr hp nx
      rw [V.onCells_eq] at h
      obtain ⟨h1, h⟩ := lenIs_inv h
      obtain ⟨h2, h⟩ := allOne_inv h
      obtain ⟨rows, h3, h4, h⟩ := prt_inv h fr hp nx
      refine ⟨_, ?_, by simp [h4], h⟩
      unfold evalParts rowsP
      have g1 : Nat.beq (cellsV (evalV (absS fr tm hp nx) x)).length es = true := by rw [h1]; exact Nat.beq_refl _
      rw [hi, g1, h2]
      simp only
      rw [h3]
    · exact Ans.no h

noncomputable def lBuildSlice (P : Program) (d : Option Tmp) (t : TypeId) (n : Nat) (parts : List (Nat × Operand)) : LOp := match elOf P t with
  | some el => match Nat.beq parts.length n, Nat.ble (n * el.es) 16777216 with
    | true, true => ⟨fun _ _ tm hp nx k => (prt el.es parts 0).run tm fun rows => ofRows el.es rows n fun ob => newK d ob (.sl nx 0 n true) tm hp nx k⟩
    | _, _ => lbad 133
  | none => lbad 134
theorem lBuildSlice_spec {o : Oper} {t : TypeId} {n : Nat} {parts : Array (Nat × Operand)} (ho : o.op = .buildSlice t n parts) : LSpec ρ P o (lBuildSlice P o.dst t n parts.toList) := by
  unfold lBuildSlice
  split
  · rename_i el hel
    obtain ⟨h1, h2, _, _⟩ := elOf_ok hel
    split
    · rename_i hn hbig
      intro fr E cs tm hp nx k kn hf hc hd h
      obtain ⟨rows, h3, h4, h⟩ := prt_inv h fr hp nx
      have hn := Nat.eq_of_beq_eq_true hn
      obtain ⟨ob, h, h5⟩ := ofRows_inv (h4.trans hn) h
      have := newK_inv h fr
      rw [h5] at this
      exact qo_buildSlice ho h1 h2 (Nat.le_of_ble_eq_true hbig) (h4.trans hn) h3 hd this
    · exact lspec_bad
  · exact lspec_bad

/-- Sixteen, or many, rows of noughts. -/
noncomputable def zeroK (es n : Nat) (z : List V) (k : KOb → Ans) : Ans := boolK (Nat.ble n 16) (k (.a1 es n (N16.all z))) (must (Nat.ble n 4096) (k (.a3 es n (N16.all (N16.all (N16.all z))))))
theorem zeroK_inv {es n : Nat} {z : List V} {k : KOb → Ans} (h : zeroK es n z k = .ok) : ∃ ob, k ob = .ok ∧ absK ob = some (zeroOb es n z) := by
  rcases boolK_inv h with ⟨h1, h⟩ | ⟨_, h⟩
  · refine ⟨_, h, ?_⟩
    have h1 := Nat.le_of_ble_eq_true h1
    show some (⟨es, fun r => if r < n then (if r < 16 then some ((N16.all z).get r) else none) else none, false⟩ : Ob) = some ⟨es, fun r => if r < n then some z else none, false⟩
    congr 2
    funext r
    by_cases e : r < n
    · rw [if_pos e, if_pos e, if_pos (by omega), N16.get_all]
    · rw [if_neg e, if_neg e]
  · obtain ⟨h1, h⟩ := must_inv h
    refine ⟨_, h, ?_⟩
    have h1 := Nat.le_of_ble_eq_true h1
    show some (⟨es, fun r => if r < n then (if r < 4096 then some (get3 (N16.all (N16.all (N16.all z))) r) else none) else none, false⟩ : Ob) = some ⟨es, fun r => if r < n then some z else none, false⟩
    congr 2
    funext r
    by_cases e : r < n
    · rw [if_pos e, if_pos e, if_pos (by omega)]
      unfold get3 get2
      rw [N16.get_all, N16.get_all, N16.get_all]
    · rw [if_neg e, if_neg e]

/-- The same, as a list for proofs with unknowns. -/
noncomputable def zerosK (lm : Bool) (es n : Nat) (z : List V) (k : KOb → Ans) : Ans := boolK lm (k (.ls es (List.replicate n z))) (zeroK es n z k)
theorem zerosK_inv {lm : Bool} {es n : Nat} {z : List V} {k : KOb → Ans} (h : zerosK lm es n z k = .ok) : ∃ ob, k ob = .ok ∧ absK ob = some (zeroOb es n z) := by
  rcases boolK_inv h with ⟨_, h⟩ | ⟨_, h⟩
  · refine ⟨_, h, ?_⟩
    show some (⟨es, fun r => (List.replicate n z)[r]?, false⟩ : Ob) = some ⟨es, fun r => if r < n then some z else none, false⟩
    congr 2
    funext r
    exact List.getElem?_replicate
  · exact zeroK_inv h

noncomputable def lMake (P : Program) (d : Option Tmp) (t : TypeId) (x y : Operand) : LOp := match elOf P t with
  | some el => match el.z.all V.one with
    | true => ⟨fun E _ tm hp nx k => (opd x).get tm fun v => (opd y).get tm fun u => v.onInt fun _ m => onNat m fun m => u.onInt fun _ n => onNat n fun n => must (Nat.beq m n) (must (Nat.ble n 9223372036854775807) (must (Nat.ble (Nat.mul el.eb n) 281474976710656)
        (zerosK E.lm el.es n el.z fun ob => newK d ob (.sl nx 0 n true) tm hp nx k)))⟩
    | false => lbad 135
  | none => lbad 136
theorem lMake_spec {o : Oper} {t : TypeId} {x y : Operand} (ho : o.op = .makeSlice t x y) : LSpec ρ P o (lMake P o.dst t x y) := by
  unfold lMake
  split
  · rename_i el hel
    obtain ⟨h1, h2, _, te, hte, hz⟩ := elOf_ok hel
    split
    · rename_i hone
      intro fr E cs tm hp nx k kn hf hc hd h
      have h := opd_inv (k := fun u => _) (opd_inv (k := fun v => (opd y).get tm fun u => v.onInt fun _ m => onNat m fun m => u.onInt fun _ n => onNat n fun n => must (Nat.beq m n) (must (Nat.ble n 9223372036854775807) (must (Nat.ble (Nat.mul el.eb n) 281474976710656)
        (zerosK E.lm el.es n el.z fun ob => newK o.dst ob (.sl nx 0 n true) tm hp nx k)))) h fr hp nx) fr hp nx
      obtain ⟨k1, m', hx, h⟩ := V.onInt_inv h
      obtain ⟨m, hm, h⟩ := onNat_inv h
      obtain ⟨k2, n', hy, h⟩ := V.onInt_inv h
      obtain ⟨n, hn, h⟩ := onNat_inv h
      obtain ⟨h3, h⟩ := must_inv h
      obtain ⟨h4, h⟩ := must_inv h
      obtain ⟨h5, h⟩ := must_inv h
      obtain ⟨ob, h9, h6⟩ := zerosK_inv h
      have h3 := Nat.eq_of_beq_eq_true h3
      subst hm hn h3
      have := newK_inv h9 fr
      rw [h6] at this
      exact qo_makeSlice ho hx hy h1 hte h2 (Nat.le_of_ble_eq_true h4) (Nat.le_of_ble_eq_true h5) hz hone hd this
    · exact lspec_bad
  · exact lspec_bad

end Go.Proofs.YtibmbbogjkecoaaDoor.M

/- Maps, as the kernel runs them. -/
namespace Go.Proofs.YtibmbbogjkecoaaDoor.M
open Go Go.RowKit
set_option linter.unusedSimpArgs false
set_option linter.unusedVariables false

variable {ρ : Nat → Value} {P : Program}

noncomputable def onMp (ob : KOb) (k : List (List V) → Ans) : Ans := KOb.rec (motive := fun _ => AnsT) (.err 74) (fun _ => .err 74) (fun _ _ _ => .err 74) (fun _ _ _ => .err 74) (fun _ _ => .err 74) (fun rows => k rows) ob
theorem onMp_inv {ob : KOb} {k : List (List V) → Ans} (h : onMp ob k = .ok) : ∃ rows, ob = .mp rows ∧ k rows = .ok := by
  cases ob with
  | mp rows => exact ⟨rows, rfl, h⟩
  | _ => exact Ans.no h

def keyD (P : Program) (t : TypeId) : Option TypeDesc := match P.underlying t with
  | some .string => some .string
  | some (.int k) => some (.int k)
  | _ => none
theorem keyD_ok {t : TypeId} {d : TypeDesc} (h : keyD P t = some d) : P.underlying t = some d := by
  unfold keyD at h
  split at h
  · rename_i e; cases h; exact e
  · rename_i e; cases h; exact e
  · cases h

noncomputable def eqK (d : TypeDesc) (q q' : V) (y n : Ans) : Ans := match d with
  | .string => q.onPs fun l m => q'.onPs fun l' m' => boolK (Nat.beq l l') (boolK (Nat.beq m m') y n) n
  | .int kd => q.onInt fun k a => q'.onInt fun k' a' => must (Nat.beq (numK k) (numK kd)) (must (Nat.beq (numK k') (numK kd)) (boolK (decide (a = a')) y n))
  | _ => .err 75
theorem eqK_inv {d : TypeDesc} {q q' : V} {y n : Ans} (h : eqK d q q' y n = .ok) : (eqKey d q q' = some true ∧ y = .ok) ∨ (eqKey d q q' = some false ∧ n = .ok) := by
  unfold eqK at h
  split at h
  · obtain ⟨l, m, e1, g1⟩ := V.onPs_inv h
    obtain ⟨l', m', e2, g2⟩ := V.onPs_inv g1
    rw [e1, e2]
    unfold eqKey
    rcases boolK_inv g2 with ⟨h1, g3⟩ | ⟨h1, g3⟩
    · rcases boolK_inv g3 with ⟨h2, g4⟩ | ⟨h2, g4⟩
      · exact .inl ⟨by simp [h1, h2], g4⟩
      · exact .inr ⟨by simp [h1, h2], g4⟩
    · exact .inr ⟨by simp [h1], g3⟩
  · obtain ⟨k, a, e1, g1⟩ := V.onInt_inv h
    obtain ⟨k', a', e2, g2⟩ := V.onInt_inv g1
    obtain ⟨h1, g3⟩ := must_inv g2
    obtain ⟨h2, g4⟩ := must_inv g3
    have h1 := numK_inj h1
    have h2 := numK_inj h2
    rw [e1, e2, h1, h2]
    unfold eqKey
    rcases boolK_inv g4 with ⟨h3, g5⟩ | ⟨h3, g5⟩
    · exact .inl ⟨by simp [of_decide_eq_true h3], g5⟩
    · exact .inr ⟨by simp [of_decide_eq_false h3], g5⟩
  · exact Ans.no h

noncomputable def row2 (row : List V) (g : V → V → Ans) : Ans := match row with
  | [k, v] => g k v
  | _ => .err 76
theorem row2_inv {row : List V} {g : V → V → Ans} (h : row2 row g = .ok) : ∃ k v, row = [k, v] ∧ g k v = .ok := by
  unfold row2 at h
  split at h
  · exact ⟨_, _, rfl, h⟩
  · exact Ans.no h

noncomputable def findK (d : TypeDesc) (q : V) (rows : List (List V)) : Nat → (Nat → V → Ans) → Ans → Ans :=
  List.rec (motive := fun _ => Nat → (Nat → V → Ans) → Ans → Ans) (fun _ _ n => n) (fun row _ ih i f n => row2 row fun k v => eqK d q k (f i v) (forceN (Nat.succ i) fun i' => ih i' f n)) rows
theorem findK_inv {d : TypeDesc} {q : V} : ∀ {rows : List (List V)} {i : Nat} {f : Nat → V → Ans} {n : Ans}, findK d q rows i f n = .ok →
    (∃ j v, findV d q rows i = some (some (j, v)) ∧ f j v = .ok) ∨ (findV d q rows i = some none ∧ n = .ok)
  | [], i, f, n, h => .inr ⟨rfl, h⟩
  | row :: rows, i, f, n, h => by
    have h : (row2 row fun k v => eqK d q k (f i v) (forceN (Nat.succ i) fun i' => findK d q rows i' f n)) = .ok := h
    obtain ⟨k, v, rfl, h⟩ := row2_inv h
    rcases eqK_inv h with ⟨h1, h⟩ | ⟨h1, h⟩
    · exact .inl ⟨i, v, by simp [findV, h1], h⟩
    · rw [forceN_eq] at h
      rcases findK_inv (rows := rows) (i := i + 1) h with ⟨j, v', h2, h3⟩ | ⟨h2, h3⟩
      · exact .inl ⟨j, v', by simp [findV, h1, h2], h3⟩
      · exact .inr ⟨by simp [findV, h1, h2], h3⟩

noncomputable def snocK (row : List V) (rows : List (List V)) : (List (List V) → Ans) → Ans :=
  List.rec (motive := fun _ => (List (List V) → Ans) → AnsT) (fun k => k [row]) (fun x _ ih k => ih fun r => k (x :: r)) rows
theorem snocK_inv {row : List V} : ∀ {rows : List (List V)} {k : List (List V) → Ans}, snocK row rows k = .ok → k (rows ++ [row]) = .ok
  | [], _, h => h
  | x :: rows, k, h => snocK_inv (rows := rows) (k := fun r => k (x :: r)) h

noncomputable def setK (i : Nat) (row : List V) : List (List V) → (List (List V) → Ans) → Ans :=
  Nat.rec (motive := fun _ => List (List V) → (List (List V) → Ans) → AnsT) (fun rows k => List.rec (motive := fun _ => AnsT) (k []) (fun _ t _ => k (row :: t)) rows)
    (fun _ ih rows k => List.rec (motive := fun _ => AnsT) (k []) (fun x t _ => ih t fun r => k (x :: r)) rows) i
theorem setK_inv {row : List V} : ∀ {i : Nat} {rows : List (List V)} {k : List (List V) → Ans}, setK i row rows k = .ok → k (rows.set i row) = .ok
  | 0, [], _, h => h
  | 0, x :: rows, _, h => h
  | i + 1, [], _, h => h
  | i + 1, x :: rows, k, h => setK_inv (i := i) (rows := rows) (k := fun r => k (x :: r)) h

noncomputable def lMakeMap (d : Option Tmp) (r : Option Operand) : LOp := match r with
  | none => ⟨fun _ _ tm hp nx k => newK d (.mp []) (.mapr nx) tm hp nx k⟩
  | some _ => lbad 150
theorem lMakeMap_spec {o : Oper} {t : TypeId} {r : Option Operand} (ho : o.op = .makeMap t r) : LSpec ρ P o (lMakeMap o.dst r) := by
  cases r with
  | none =>
    intro fr E cs tm hp nx k kn hf hc hd h
    exact qo_makeMap ho hd (newK_inv h fr)
  | some r => exact lspec_bad

noncomputable def lLookup (P : Program) (d : Option Tmp) (t : TypeId) (x ix : Operand) (ok : Bool) : LOp := match P.underlying t with
  | some (.map kt et) => match keyD P kt, zeroV P et with
    | some kd, some z => ⟨fun E cs tm hp nx k => (opd x).get tm fun m => (opd ix).get tm fun q => m.onMap (fun j => (acc4 KOb j).get hp fun ob => onMp ob fun rows =>
        eqK kd q q (findK kd q rows 0 (fun _ v => (updD d).run tm (match ok with | true => .tup [v, .bool true] | false => v) fun tm' => k tm' hp nx)
          ((updD d).run tm (match ok with | true => .tup [z, .bool false] | false => z) fun tm' => k tm' hp nx)) (.err 77)) (fun _ => .err 78)⟩
    | _, _ => lbad 151
  | _ => lbad 152
theorem lLookup_spec {o : Oper} {t : TypeId} {x ix : Operand} {ok : Bool} (ho : o.op = .lookup t x ix ok) : LSpec ρ P o (lLookup P o.dst t x ix ok) := by
  unfold lLookup
  split
  · rename_i kt et hu
    split
    · rename_i kd z hkd hz
      intro fr E cs tm hp nx k kn hf hc hd h
      have h := opd_inv (opd_inv (x := x) (k := fun m => (opd ix).get tm _) h fr hp nx) fr hp nx
      rcases V.onMap_inv h with ⟨j, hx, h⟩ | ⟨_, _, h⟩
      · obtain ⟨ob, h1, h⟩ := ob_inv h
        obtain ⟨rows, rfl, h⟩ := onMp_inv h
        rcases eqK_inv h with ⟨h2, h⟩ | ⟨_, h⟩
        · rcases findK_inv h with ⟨i, v, h3, h⟩ | ⟨h3, h⟩
          · obtain ⟨tm', h, h4⟩ := updD_inv h
            refine qo_lookup ho hx h1 hu (keyD_ok hkd) h2 h3 hz hd ?_
            refine ⟨tm', hp, nx, ?_, h⟩
            rw [← h4]
            cases ok <;> rfl
          · obtain ⟨tm', h, h4⟩ := updD_inv h
            refine qo_lookup ho hx h1 hu (keyD_ok hkd) h2 h3 hz hd ?_
            refine ⟨tm', hp, nx, ?_, h⟩
            rw [← h4]
            cases ok <;> rfl
        · exact Ans.no h
      · exact Ans.no h
    · exact lspec_bad
  · exact lspec_bad

noncomputable def lMapUpdate (P : Program) (d : Option Tmp) (t : TypeId) (x ix y : Operand) : LOp := match d, P.underlying t with
  | none, some (.map kt et) => match keyD P kt with
    | some kd => ⟨fun E cs tm hp nx k => (opd x).get tm fun m => (opd ix).get tm fun q => (opd y).get tm fun u => m.onMap (fun j => noneK j E.forb (noneK j cs ((acc4 KOb j).get hp fun ob => onMp ob fun rows =>
        eqK kd q q (findK kd q rows 0 (fun i _ => setK i [q, u] rows fun rows' => (acc4 KOb j).upd hp (.mp rows') fun hp' => k tm hp' nx)
          (snocK [q, u] rows fun rows' => (acc4 KOb j).upd hp (.mp rows') fun hp' => k tm hp' nx)) (.err 77)))) (fun _ => .err 78)⟩
    | none => lbad 153
  | _, _ => lbad 154
theorem lMapUpdate_spec {o : Oper} {t : TypeId} {x ix y : Operand} (ho : o.op = .mapUpdate t x ix y ∨ o.op = .insert t x ix y) : LSpec ρ P o (lMapUpdate P o.dst t x ix y) := by
  unfold lMapUpdate
  split
  · rename_i kt et hdst hu
    split
    · rename_i kd hkd
      intro fr E cs tm hp nx k kn hf hc hd h
      have h := opd_inv (opd_inv (opd_inv (x := x) (k := fun m => (opd ix).get tm _) h fr hp nx) fr hp nx) fr hp nx
      rcases V.onMap_inv h with ⟨j, hx, h⟩ | ⟨_, _, h⟩
      · obtain ⟨g1, h⟩ := noneK_inv h
        obtain ⟨g2, h⟩ := noneK_inv h
        obtain ⟨ob, h1, h⟩ := ob_inv h
        obtain ⟨rows, rfl, h⟩ := onMp_inv h
        rcases eqK_inv h with ⟨h2, h⟩ | ⟨_, h⟩
        · rcases findK_inv h with ⟨i, v, h3, h⟩ | ⟨h3, h⟩
          · have h := setK_inv (k := fun rows' => (acc4 KOb j).upd hp (.mp rows') fun hp' => k tm hp' nx) h
            obtain ⟨g3, h⟩ := acc4_upd h
            refine qo_mapUpdate ho hdst hx h1 hu (keyD_ok hkd) h2 h3 (by rw [hf] at g1; exact g1) g2 ⟨tm, _, nx, ?_, h⟩
            unfold absS
            rw [absO_put g3]
            rfl
          · have h := snocK_inv (k := fun rows' => (acc4 KOb j).upd hp (.mp rows') fun hp' => k tm hp' nx) h
            obtain ⟨g3, h⟩ := acc4_upd h
            refine qo_mapUpdate ho hdst hx h1 hu (keyD_ok hkd) h2 h3 (by rw [hf] at g1; exact g1) g2 ⟨tm, _, nx, ?_, h⟩
            unfold absS
            rw [absO_put g3]
            rfl
        · exact Ans.no h
      · exact Ans.no h
    · exact lspec_bad
  · exact lspec_bad

end Go.Proofs.YtibmbbogjkecoaaDoor.M

/- Stores, append, calls, as the kernel runs them; which is which. -/
namespace Go.Proofs.YtibmbbogjkecoaaDoor.M
open Go Go.RowKit
set_option linter.unusedSimpArgs false
set_option linter.unusedVariables false

variable {ρ : Nat → Value} {P : Program}

/-! ### Stores -/

noncomputable def KOb.setRowK (ob : KOb) (r : Nat) (row' : List V) (k : KOb → Ans) : Ans :=
  KOb.rec (motive := fun _ => AnsT) (.err 50) (fun _ => Nat.rec (motive := fun _ => AnsT) (k (.cell row')) (fun _ _ => .err 51) r) (fun s n t => (acc (List V) r).upd t row' fun t' => k (.a1 s n t')) (fun s n t => (acc3 (List V) r).upd t row' fun t' => k (.a3 s n t')) (fun s rows => k (.ls s (rows.set r row'))) (fun _ => .err 50) ob

theorem KOb.setRowK_inv {ob : KOb} {r : Nat} {row row' : List V} {k : KOb → Ans} {x : Ob} (hx : absK ob = some x) (hr : x.row r = some row) (hl : row'.length = row.length) (h : ob.setRowK r row' k = .ok) : ∃ ob', absK ob' = some (setRow x r row') ∧ k ob' = .ok := by
  cases ob with
  | no => exact Ans.no h
  | cell row0 =>
    cases r with
    | zero =>
      cases hx
      have hr : some row0 = some row := hr
      cases hr
      refine ⟨_, ?_, h⟩
      show some (boxOb row') = _
      unfold boxOb setRow
      simp only [hl]
      congr 2
      funext j
      cases j with
      | zero => rfl
      | succ j => rfl
    | succ r => exact Ans.no h
  | a1 s n t =>
    cases hx
    obtain ⟨h1, h⟩ := acc_upd h
    refine ⟨_, ?_, h⟩
    have hr : (if r < n then (if r < 16 then some (t.get r) else none) else none) = some row := hr
    have hn : r < n := by
      by_cases e : r < n
      · exact e
      · rw [if_neg e] at hr; cases hr
    show some (⟨s, fun j => if j < n then (if j < 16 then some ((t.put r row').get j) else none) else none, false⟩ : Ob) = some ⟨s, fun j => if j = r then some row' else if j < n then (if j < 16 then some (t.get j) else none) else none, false⟩
    congr 2
    funext j
    by_cases e : j < 16
    · rw [N16.get_put _ _ _ _ h1 e]
      by_cases e2 : j = r
      · subst e2
        rw [if_pos hn, if_pos e, if_pos rfl, if_pos rfl]
      · rw [if_neg e2, if_neg e2]
    · rw [if_neg (by omega : ¬ j = r), if_neg e, if_neg e]
  | a3 s n t =>
    cases hx
    obtain ⟨h1, h⟩ := acc3_upd h
    refine ⟨_, ?_, h⟩
    have hr : (if r < n then (if r < 4096 then some (get3 t r) else none) else none) = some row := hr
    have hn : r < n := by
      by_cases e : r < n
      · exact e
      · rw [if_neg e] at hr; cases hr
    show some (⟨s, fun j => if j < n then (if j < 4096 then some (get3 (put3 t r row') j) else none) else none, false⟩ : Ob) = some ⟨s, fun j => if j = r then some row' else if j < n then (if j < 4096 then some (get3 t j) else none) else none, false⟩
    congr 2
    funext j
    by_cases e : j < 4096
    · rw [get_put3 _ _ _ _ h1 e]
      by_cases e2 : j = r
      · subst e2
        rw [if_pos hn, if_pos e, if_pos rfl, if_pos rfl]
      · rw [if_neg e2, if_neg e2]
    · rw [if_neg (by omega : ¬ j = r), if_neg e, if_neg e]
  | ls s rows =>
    cases hx
    refine ⟨_, ?_, h⟩
    have hr : rows[r]? = some row := hr
    show some (⟨s, fun j => (rows.set r row')[j]?, false⟩ : Ob) = some ⟨s, fun j => if j = r then some row' else rows[j]?, false⟩
    congr 2
    funext j
    rw [List.getElem?_set]
    by_cases e : j = r
    · subst e
      rw [if_pos rfl, if_pos rfl, if_pos (lt_of_get hr)]
    · rw [if_neg (fun g => e g.symm), if_neg e]
  | mp rows => exact Ans.no h

noncomputable def lStore (P : Program) (t : TypeId) (x y : Operand) : LOp := match tiOf P t with
  | some ti => match Nat.ble 1 ti.size with
    | true => ⟨fun E cs tm hp nx k => (opd x).get tm fun v => (opd y).get tm fun u => v.onPtr fun j r c => u.onCells fun l => lenIs ti.size l (allOne l (clearK j r c ti.size E.forb (clearK j r c ti.size cs
        ((acc4 KOb j).get hp fun ob => ob.row r fun row => (spl c).run row l fun row' => ob.setRowK r row' fun ob' => (acc4 KOb j).upd hp ob' fun hp' => k tm hp' nx))))⟩
    | false => match Nat.beq ti.size 0 with
      | true => ⟨fun E cs tm hp nx k => (opd x).get tm fun v => (opd y).get tm fun u => v.onPtr fun _ _ _ => u.onCells fun l => lenIs 0 l (k tm hp nx)⟩
      | false => lbad 137
  | none => lbad 138
theorem lStore_spec {o : Oper} {t : TypeId} {x y : Operand} (ho : o.op = .store t x y) (hdst : o.dst = none) : LSpec ρ P o (lStore P t x y) := by
  unfold lStore
  split
  · rename_i ti hti
    split
    · rename_i h0
      intro fr E cs tm hp nx k kn hf hc hd h
      have h := opd_inv (k := fun u => _) (opd_inv (k := fun v => (opd y).get tm fun u => v.onPtr fun j r c => u.onCells fun l => lenIs ti.size l (allOne l (clearK j r c ti.size E.forb (clearK j r c ti.size cs
        ((acc4 KOb j).get hp fun ob => ob.row r fun row => (spl c).run row l fun row' => ob.setRowK r row' fun ob' => (acc4 KOb j).upd hp ob' fun hp' => k tm hp' nx))))) h fr hp nx) fr hp nx
      obtain ⟨j, r, c, hx, h⟩ := V.onPtr_inv h
      rw [V.onCells_eq] at h
      obtain ⟨h1, h⟩ := lenIs_inv h
      obtain ⟨h2, h⟩ := allOne_inv h
      obtain ⟨h3, h⟩ := clearK_inv h
      obtain ⟨h4, h⟩ := clearK_inv h
      obtain ⟨ob, h5, h⟩ := ob_inv h
      obtain ⟨z, row, h6, hmp, h7, h⟩ := KOb.row_inv h
      obtain ⟨h8, h⟩ := spl_inv h
      obtain ⟨ob', h9, h⟩ := KOb.setRowK_inv h6 h7 (splice_length _ _ _) h
      obtain ⟨g1, h⟩ := acc4_upd h
      have g0 := Nat.le_of_ble_eq_true h0
      refine qo_store ho hdst hx rfl h2 (tiOf_ok hti) h1.symm (by omega) (h5.trans h6) hmp h7 h8 (by rw [hf, ← h1] at h3; exact h3) (by rw [← h1] at h4; exact h4) ⟨tm, put4 hp j ob', nx, ?_, h⟩
      unfold absS
      rw [absO_put g1, h9]
      rfl
    · split
      · rename_i hz
        have hz := Nat.eq_of_beq_eq_true hz
        intro fr E cs tm hp nx k kn hf hc hd h
        have h := opd_inv (opd_inv (x := x) (k := fun v => (opd y).get tm _) h fr hp nx) fr hp nx
        obtain ⟨j, r, c, hx, h⟩ := V.onPtr_inv h
        rw [V.onCells_eq] at h
        obtain ⟨h1, h⟩ := lenIs_inv h
        refine qo_store0 ho hdst hx (List.eq_nil_of_length_eq_zero ?_) (tiOf_ok hti) hz (nk_of h)
        omega
      · exact lspec_bad
  · exact lspec_bad

/-! ### Append -/

/-- Rows as an object: in a tree, or as a list (for proofs with unknowns). -/
noncomputable def startK (lm : Bool) (es : Nat) (l : List (List V)) (n : Nat) (k : KOb → Ans) : Ans := boolK lm (k (.ls es l)) (ofRows es l n k)
theorem startK_inv {lm : Bool} {es n : Nat} {l : List (List V)} {k : KOb → Ans} (hn : l.length = n) (h : startK lm es l n k = .ok) : ∃ ob, k ob = .ok ∧ absK ob = some (rowsOb es l) := by
  rcases boolK_inv h with ⟨_, h⟩ | ⟨_, h⟩
  · exact ⟨_, h, rfl⟩
  · exact ofRows_inv hn h

noncomputable def rowsK (ob : KOb) (l : Nat) : Nat → (List (List V) → Ans) → Ans :=
  Nat.rec (motive := fun _ => Nat → (List (List V) → Ans) → Ans) (fun _ k => k []) (fun _ ih off k => ob.row off fun row => forceN (Nat.succ off) fun off' => ih off' fun rows => k (row :: rows)) l
theorem rowsK_inv {ob : KOb} {x : Ob} (hx : absK ob = some x) : ∀ {l off : Nat} {k : List (List V) → Ans}, rowsK ob l off k = .ok → ∃ rows, rows.length = l ∧ (∀ r, r < l → x.row (off + r) = rows[r]?) ∧ k rows = .ok
  | 0, off, k, h => ⟨[], rfl, fun r hr => by omega, h⟩
  | l + 1, off, k, h => by
    have h : (ob.row off fun row => forceN (Nat.succ off) fun off' => rowsK ob l off' fun rows => k (row :: rows)) = .ok := h
    obtain ⟨y, row, h1, hmp, h2, h⟩ := KOb.row_inv h
    rw [hx] at h1
    cases h1
    rw [forceN_eq] at h
    obtain ⟨rows, h3, h4, h⟩ := rowsK_inv hx h
    refine ⟨row :: rows, by simp [h3], fun r hr => ?_, h⟩
    cases r with
    | zero => simpa using h2
    | succ r =>
      have := h4 r (by omega)
      rw [show off + (r + 1) = Nat.succ off + r by omega, this]
      simp

noncomputable def srcK (es : Nat) (v : V) (hp : Hp) (f : Nat → List (List V) → Ans) : Ans :=
  v.onLen (fun j off len _ => (acc4 KOb j).get hp fun ob => ob.ofS es (rowsK ob len off fun l => f len l)) (fun s rows => must (Nat.beq s es) (forceN rows.length fun n => f n rows)) (fun len n => must (Nat.beq 1 es) (f len (byteRows len n))) (fun w => must (isNilSl w) (f 0 []))

theorem srcK_inv {es : Nat} {v : V} {hp : Hp} {f : Nat → List (List V) → Ans} (h : srcK es v hp f = .ok) (fr : Fr) (tm : Tm) (nx : Nat) :
    ∃ m l g, srcOf (absS fr tm hp nx) es v = some (m, g) ∧ l.length = m ∧ (∀ r, r < m → g r = l[r]?) ∧ f m l = .ok := by
  rcases V.onLen_inv h with ⟨j, off, len, full, rfl, h9⟩ | ⟨s, rows, rfl, h9⟩ | ⟨len, n, rfl, h9⟩ | ⟨w, rfl, h9⟩
  · obtain ⟨ob, h1, h9⟩ := ob_inv h9
    obtain ⟨⟨x, h2, hmp, h3⟩, h9⟩ := KOb.ofS_inv h9
    obtain ⟨rows, h4, h5, h9⟩ := rowsK_inv h2 h9
    refine ⟨len, rows, fun r => x.row (off + r), ?_, h4, h5, h9⟩
    have : (absS fr tm hp nx).objs j = some x := h1.trans h2
    unfold srcOf
    simp only [this]
    rw [h3, Nat.beq_refl, hmp]
    rfl
  · obtain ⟨h1, h9⟩ := must_inv h9
    rw [forceN_eq] at h9
    refine ⟨rows.length, rows, fun r => rows[r]?, ?_, rfl, fun r _ => rfl, h9⟩
    unfold srcOf
    simp only [h1]
  · obtain ⟨h1, h9⟩ := must_inv h9
    refine ⟨len, byteRows len n, fun r => (byteRows len n)[r]?, ?_, byteRows_length _ _, fun r _ => rfl, h9⟩
    unfold srcOf
    simp only [h1]
  · obtain ⟨h1, h9⟩ := must_inv h9
    have hw := isNilSl_ok h1
    subst hw
    exact ⟨0, [], fun _ => none, rfl, rfl, fun r hr => by omega, h9⟩

/-- The rows of an object from off on, as an object. -/
noncomputable def baseK (ob : KOb) (es off len : Nat) (k : KOb → Ans) : Ans := Nat.rec (motive := fun _ => AnsT) (k ob) (fun _ _ => rowsK ob len off fun l => ofRows es l len k) off
theorem baseK_inv {ob : KOb} {es off len : Nat} {k : KOb → Ans} {x : Ob} (hx : absK ob = some x) (h : baseK ob es off len k = .ok) : ∃ ob1, k ob1 = .ok ∧ ∀ x1, absK ob1 = some x1 → ∀ r, r < len → x1.row r = x.row (off + r) := by
  cases off with
  | zero =>
    refine ⟨ob, h, fun x1 h1 r _ => ?_⟩
    rw [hx] at h1
    cases h1
    rw [Nat.zero_add]
  | succ n =>
    obtain ⟨l, h1, h2, h⟩ := rowsK_inv hx (l := len) (off := n + 1) h
    obtain ⟨ob1, h, h3⟩ := ofRows_inv h1 h
    refine ⟨ob1, h, fun x1 h4 r hr => ?_⟩
    rw [h3] at h4
    cases h4
    exact (h2 r hr).symm

theorem appRow_eq {len m : Nat} {a b : Nat → Option (List V)} {f g : Nat → Option (List V)} (h1 : ∀ r, r < len → a r = b r) (h2 : ∀ r, r < m → f r = g r) : appRow len a f m = appRow len b g m := by
  funext r
  unfold appRow
  by_cases e : r < len
  · rw [if_pos e, if_pos e, h1 r e]
  · rw [if_neg e, if_neg e]
    by_cases e2 : r < len + m
    · rw [if_pos e2, if_pos e2, h2 _ (by omega)]
    · rw [if_neg e2, if_neg e2]

def txB (P : Program) (tx : TypeId) : Bool := match P.underlying tx with
  | some (.slice _) | some .string => true
  | _ => false
theorem txB_ok {tx : TypeId} (h : txB P tx = true) : TxOK P tx := by
  unfold txB at h
  split at h
  · rename_i e' he; exact ⟨_, he, .inl ⟨e', rfl⟩⟩
  · rename_i he; exact ⟨_, he, .inr rfl⟩
  · cases h

noncomputable def lAppend (P : Program) (d : Option Tmp) (t tx : TypeId) (s x : Operand) : LOp := match elOf P t, txB P tx with
  | some el, true => ⟨fun E cs tm hp nx k => (opd s).get tm fun sv => (opd x).get tm fun xv => srcK el.es xv hp fun m l =>
      boolK (Nat.ble 1 m)
        (sv.onSl (fun j off len full => forceN (Nat.add len m) fun n => must (Nat.ble n 9223372036854775807) (must (Nat.ble (Nat.mul n el.eb) 140737488355328)
            ((acc4 KOb j).get hp fun ob => ob.ofS el.es (baseK ob el.es off len fun ob1 => joinK ob1 el.es len l m fun ob' =>
              boolK full (newK d ob' (.sl nx 0 n false) tm hp nx k) (noneK j E.forb (noneK j cs ((acc4 KOb j).upd hp .no fun hp' => newK d ob' (.sl nx 0 n false) tm hp' nx k)))))))
          (fun w => must (isNilSl w) (must (Nat.ble m 9223372036854775807) (must (Nat.ble (Nat.mul m el.eb) 281474976710656) (startK E.lm el.es l m fun ob => newK d ob (.sl nx 0 m false) tm hp nx k)))))
        (sv.onSl (fun _ _ _ _ => (updD d).run tm sv fun tm' => k tm' hp nx) (fun w => must (isNilSl w) ((updD d).run tm sv fun tm' => k tm' hp nx)))⟩
  | _, _ => lbad 139

theorem lAppend_spec {o : Oper} {t tx : TypeId} {s x : Operand} (ho : isAppend o s x t tx) : LSpec ρ P o (lAppend P o.dst t tx s x) := by
  unfold lAppend
  split
  · rename_i el hel htx
    have htx := txB_ok htx
    obtain ⟨he1, he2, _, _⟩ := elOf_ok hel
    intro fr E cs tm hp nx k kn hf hc hd h
    have h := opd_inv (k := fun xv => _) (opd_inv (k := fun sv => (opd x).get tm fun xv => srcK el.es xv hp fun m l =>
      boolK (Nat.ble 1 m)
        (sv.onSl (fun j off len full => forceN (Nat.add len m) fun n => must (Nat.ble n 9223372036854775807) (must (Nat.ble (Nat.mul n el.eb) 140737488355328)
            ((acc4 KOb j).get hp fun ob => ob.ofS el.es (baseK ob el.es off len fun ob1 => joinK ob1 el.es len l m fun ob' =>
              boolK full (newK o.dst ob' (.sl nx 0 n false) tm hp nx k) (noneK j E.forb (noneK j cs ((acc4 KOb j).upd hp .no fun hp' => newK o.dst ob' (.sl nx 0 n false) tm hp' nx k)))))))
          (fun w => must (isNilSl w) (must (Nat.ble m 9223372036854775807) (must (Nat.ble (Nat.mul m el.eb) 281474976710656) (startK E.lm el.es l m fun ob => newK o.dst ob (.sl nx 0 m false) tm hp nx k)))))
        (sv.onSl (fun _ _ _ _ => (updD o.dst).run tm sv fun tm' => k tm' hp nx) (fun w => must (isNilSl w) ((updD o.dst).run tm sv fun tm' => k tm' hp nx)))) h fr hp nx) fr hp nx
    obtain ⟨m, l, g, hsrc, hl, hg, h⟩ := srcK_inv h fr tm nx
    have hsome : ∀ r, r < m → (g r).isSome = true := fun r hr => by rw [hg r hr, List.getElem?_eq_getElem (by omega)]; rfl
    rcases boolK_inv h with ⟨hm, h⟩ | ⟨hm, h⟩
    · have hm := Nat.le_of_ble_eq_true hm
      rcases V.onSl_inv h with ⟨j, off, len, full, hs, h⟩ | ⟨w, hs, h⟩
      · rw [forceN_eq] at h
        obtain ⟨h1, h⟩ := must_inv h
        obtain ⟨h2, h⟩ := must_inv h
        obtain ⟨ob, h3, h⟩ := ob_inv h
        obtain ⟨⟨y, h4, hmp, h5⟩, h⟩ := KOb.ofS_inv h
        obtain ⟨ob1, h, h6⟩ := baseK_inv h4 h
        obtain ⟨x1, ob', h7, h, h8⟩ := joinK_inv hl h
        have e8 : (⟨el.es, appRow len x1.row (fun r => l[r]?) m, false⟩ : Ob) = ⟨el.es, appRow len (fun r => y.row (off + r)) g m, false⟩ := by
          congr 1
          exact appRow_eq (h6 x1 h7) fun r hr => (hg r hr).symm
        rw [e8] at h8
        have h1 : len + m ≤ 9223372036854775807 := Nat.le_of_ble_eq_true h1
        have h2 : (len + m) * el.eb ≤ 140737488355328 := Nat.le_of_ble_eq_true h2
        rcases boolK_inv h with ⟨rfl, h⟩ | ⟨rfl, h⟩
        · have := newK_inv h fr
          rw [h8] at this
          exact qo_append_full ho hs (h3.trans h4) hmp h5 hsrc hsome he1 htx he2 hm h1 h2 hd this
        · obtain ⟨g1, h⟩ := noneK_inv h
          obtain ⟨g2, h⟩ := noneK_inv h
          obtain ⟨g3, h⟩ := acc4_upd h
          have := newK_inv h fr
          rw [h8, absO_put g3] at this
          exact qo_append ho hs (h3.trans h4) hmp h5 hsrc hsome he1 htx he2 hm h1 h2 (by rw [hf] at g1; exact g1) g2 hd this
      · obtain ⟨h1, h⟩ := must_inv h
        obtain ⟨h2, h⟩ := must_inv h
        obtain ⟨h3, h⟩ := must_inv h
        obtain ⟨ob, h9, h4⟩ := startK_inv hl h
        have hw := isNilSl_ok h1
        subst hw
        have := newK_inv h9 fr
        have e4 : rowsOb el.es l = ⟨el.es, appRow 0 (fun _ => none) g m, false⟩ := by
          unfold rowsOb
          congr 1
          funext r
          unfold appRow
          rw [if_neg (by omega)]
          by_cases e : r < 0 + m
          · rw [if_pos e, hg _ (by omega)]
            rfl
          · rw [if_neg e, List.getElem?_eq_none (by omega)]
        rw [h4, e4] at this
        exact qo_append_nil ho hs hsrc hsome he1 htx he2 hm (Nat.le_of_ble_eq_true h2) (Nat.le_of_ble_eq_true h3) hd this
    · have hm : m = 0 := by have := ble_false hm; omega
      subst hm
      have fin : ∀ (p : V), evalV (absS fr tm hp nx) s = p → p.appB = true → ((updD o.dst).run tm p fun tm' => k tm' hp nx) = .ok → QO ρ P (inL cs) o (absS fr tm hp nx) (NK fr k) (KE fr E kn) := by
        intro p hp1 hp2 h
        obtain ⟨tm', h, h2⟩ := updD_inv h
        refine qo_quiet (qq_append_none ho hp1 hp2 hsrc he1 htx he2) hd ?_
        rw [h2]
        exact nk_of h
      rcases V.onSl_inv h with ⟨j, off, len, full, hs, h⟩ | ⟨w, hs, h⟩
      · exact fin _ rfl (by rw [hs]; rfl) h
      · obtain ⟨h1, h9⟩ := must_inv h
        have hw := isNilSl_ok h1
        subst hw
        exact fin _ rfl (by rw [hs]; rfl) h9
  · exact lspec_bad

/-! ### Calls -/

def fnOK (P : Program) (f : FuncId) : Bool := match P.funcs[f]? with
  | some fn => !fn.body.isNone && !(fn.name == "runtime.NumGoroutine")
  | none => false
theorem fnOK_ok {f : FuncId} (h : fnOK P f = true) : ∃ fn, P.funcs[f]? = some fn ∧ fn.body.isNone = false ∧ (fn.name == "runtime.NumGoroutine") = false := by
  unfold fnOK at h
  split at h
  · rename_i fn hf
    simp only [Bool.and_eq_true, Bool.not_eq_true'] at h
    exact ⟨fn, hf, h.1, h.2⟩
  · cases h

noncomputable def catN (l m : List PC) (k : List PC → Ans) : Ans := List.rec (motive := fun _ => (List PC → Ans) → AnsT) (fun k => k m) (fun x _ ih k => ih fun r => k (x :: r)) l k
theorem catN_inv : ∀ {l m : List PC} {k : List PC → Ans}, catN l m k = .ok → k (l ++ m) = .ok
  | [], _, _, h => h
  | x :: l, m, k, h => catN_inv (l := l) (m := m) (k := fun r => k (x :: r)) h
noncomputable def catV (l m : List V) (k : List V → Ans) : Ans := List.rec (motive := fun _ => (List V → Ans) → AnsT) (fun k => k m) (fun x _ ih k => ih fun r => k (x :: r)) l k
theorem catV_inv : ∀ {l m : List V} {k : List V → Ans}, catV l m k = .ok → k (l ++ m) = .ok
  | [], _, _, h => h
  | x :: l, m, k, h => catV_inv (l := l) (m := m) (k := fun r => k (x :: r)) h

noncomputable def goK (d : Option Tmp) (E : Env) (cs : List PC) (f : FuncId) (l : List V) (tm : Tm) (hp : Hp) (nx : Nat) (k : K3) : Ans :=
  catN cs E.forb fun forb => E.call f l forb hp nx (fun v hp' nx' => (updD d).run tm v fun tm' => k tm' hp' nx') (fun v hp' nx' => E.kp v tm hp' nx')

theorem goK_inv {o : Oper} {fo : Operand} {args : Array Operand} {ats : Array TypeId} {f : FuncId} {caps : List V} {fr : Fr} {E : Env} {cs : List PC} {tm : Tm} {hp : Hp} {nx : Nat} {k kn : K3}
    (ho : o.op = .call { callee := .value fo, args := args, argTypes := ats }) (hfo : evalV (absS fr tm hp nx) fo = .fn f caps) (hok : fnOK P f = true) (hf : E.forb = fr.forb) (hc : CallOK ρ P E.call) (hd : ∀ t, o.dst = some t → t < fr.n)
    (h : goK o.dst E cs f (evalL (absS fr tm hp nx) args.toList ++ caps) tm hp nx k = .ok) : QO ρ P (inL cs) o (absS fr tm hp nx) (NK fr k) (KE fr E kn) := by
  obtain ⟨fn, h1, h2, h3⟩ := fnOK_ok hok
  have h := catN_inv h
  have h4 := hc _ _ _ _ _ _ _ h
  have e : inL (cs ++ E.forb) = fun k r c => (absS fr tm hp nx).forb k r c ∨ inL cs k r c := by
    funext k r c
    rw [hf]
    apply propext
    constructor
    · rintro ⟨e, he, hx⟩
      rcases List.mem_append.mp he with g | g
      · exact .inr ⟨e, g, hx⟩
      · exact .inl ⟨e, g, hx⟩
    · rintro (⟨e, he, hx⟩ | ⟨e, he, hx⟩)
      · exact ⟨e, List.mem_append_right _ he, hx⟩
      · exact ⟨e, List.mem_append_left _ he, hx⟩
  rw [e] at h4
  refine qo_call ho hfo h1 h2 h3 h4 hd (fun v O n hr => ?_) (fun v O n hr => ?_)
  · obtain ⟨hp', rfl, h⟩ := hr
    obtain ⟨tm', h, h5⟩ := updD_inv h
    refine ⟨tm', hp', n, ?_, h⟩
    rw [← h5]
    rfl
  · obtain ⟨hp', rfl, h⟩ := hr
    exact ⟨tm, hp', n, rfl, h⟩

theorem goB_inv {o : Oper} {fo : Operand} {args : Array Operand} {ats : Array TypeId} {f : FuncId} {first : List V} {fr : Fr} {E : Env} {cs : List PC} {tm : Tm} {hp : Hp} {nx : Nat} {k kn : K3}
    (ho : o.op = .call { callee := .value fo, args := args, argTypes := ats }) (hfo : evalV (absS fr tm hp nx) fo = .bnd f first) (hok : fnOK P f = true) (hf : E.forb = fr.forb) (hc : CallOK ρ P E.call) (hd : ∀ t, o.dst = some t → t < fr.n)
    (h : goK o.dst E cs f (first ++ evalL (absS fr tm hp nx) args.toList) tm hp nx k = .ok) : QO ρ P (inL cs) o (absS fr tm hp nx) (NK fr k) (KE fr E kn) := by
  obtain ⟨fn, h1, h2, h3⟩ := fnOK_ok hok
  have h := catN_inv h
  have h4 := hc _ _ _ _ _ _ _ h
  have e : inL (cs ++ E.forb) = fun k r c => (absS fr tm hp nx).forb k r c ∨ inL cs k r c := by
    funext k r c
    rw [hf]
    apply propext
    constructor
    · rintro ⟨e, he, hx⟩
      rcases List.mem_append.mp he with g | g
      · exact .inr ⟨e, g, hx⟩
      · exact .inl ⟨e, g, hx⟩
    · rintro (⟨e, he, hx⟩ | ⟨e, he, hx⟩)
      · exact ⟨e, List.mem_append_right _ he, hx⟩
      · exact ⟨e, List.mem_append_left _ he, hx⟩
  rw [e] at h4
  refine qo_callB ho hfo h1 h2 h3 h4 hd (fun v O n hr => ?_) (fun v O n hr => ?_)
  · obtain ⟨hp', rfl, h⟩ := hr
    obtain ⟨tm', h, h5⟩ := updD_inv h
    refine ⟨tm', hp', n, ?_, h⟩
    rw [← h5]
    rfl
  · obtain ⟨hp', rfl, h⟩ := hr
    exact ⟨tm, hp', n, rfl, h⟩

noncomputable def lCall (P : Program) (d : Option Tmp) (fo : Operand) (args : List Operand) : LOp := match fo with
  | .func f => match fnOK P f with
    | true => ⟨fun E cs tm hp nx k => (opds args).get tm fun l => goK d E cs f l tm hp nx k⟩
    | false => lbad 140
  | fo => ⟨fun E cs tm hp nx k => (opd fo).get tm fun v => v.onCall (fun f caps => must (fnOK P f) ((opds args).get tm fun l => catV l caps fun l => goK d E cs f l tm hp nx k)) (fun f first => must (fnOK P f) ((opds args).get tm fun l => catV first l fun l => goK d E cs f l tm hp nx k))⟩

theorem lCall_dyn {o : Oper} {fo : Operand} {args : Array Operand} {ats : Array TypeId} (ho : o.op = .call { callee := .value fo, args := args, argTypes := ats }) :
    LSpec ρ P o ⟨fun E cs tm hp nx k => (opd fo).get tm fun v => v.onCall (fun f caps => must (fnOK P f) ((opds args.toList).get tm fun l => catV l caps fun l => goK o.dst E cs f l tm hp nx k)) (fun f first => must (fnOK P f) ((opds args.toList).get tm fun l => catV first l fun l => goK o.dst E cs f l tm hp nx k))⟩ := by
  intro fr E cs tm hp nx k kn hf hc hd h
  have h := opd_inv (k := fun v => v.onCall (fun f caps => must (fnOK P f) ((opds args.toList).get tm fun l => catV l caps fun l => goK o.dst E cs f l tm hp nx k)) (fun f first => must (fnOK P f) ((opds args.toList).get tm fun l => catV first l fun l => goK o.dst E cs f l tm hp nx k))) h fr hp nx
  rcases V.onCall_inv h with ⟨f, caps, h1, h⟩ | ⟨f, first, h1, h⟩
  · obtain ⟨h2, h⟩ := must_inv h
    have h := opds_inv (k := fun l => catV l caps fun l => goK o.dst E cs f l tm hp nx k) h fr hp nx
    exact goK_inv ho h1 h2 hf hc hd (catV_inv (k := fun l => goK o.dst E cs f l tm hp nx k) h)
  · obtain ⟨h2, h⟩ := must_inv h
    have h := opds_inv (k := fun l => catV first l fun l => goK o.dst E cs f l tm hp nx k) h fr hp nx
    exact goB_inv ho h1 h2 hf hc hd (catV_inv (k := fun l => goK o.dst E cs f l tm hp nx k) h)

theorem lCall_spec {o : Oper} {fo : Operand} {args : Array Operand} {ats : Array TypeId} (ho : o.op = .call { callee := .value fo, args := args, argTypes := ats }) : LSpec ρ P o (lCall P o.dst fo args.toList) := by
  cases fo with
  | func f =>
    unfold lCall
    simp only
    split
    · rename_i hok
      intro fr E cs tm hp nx k kn hf hc hd h
      have h := opds_inv (k := fun l => goK o.dst E cs f l tm hp nx k) h fr hp nx
      refine goK_inv ho rfl hok hf hc hd ?_
      rw [List.append_nil]
      exact h
    · exact lspec_bad
  | tmp t => exact lCall_dyn ho
  | const c => exact lCall_dyn ho
  | global g => exact lCall_dyn ho

noncomputable def lPanic (x : Operand) : LOp := ⟨fun E _ tm hp nx _ => (opd x).get tm fun v => v.onIfc fun t q => E.kp (.ifc t q) tm hp nx⟩
theorem lPanic_spec {o : Oper} {x : Operand} (ho : o.op = .panic x) : LSpec ρ P o (lPanic x) := by
  intro fr E cs tm hp nx k kn hf hc hd h
  obtain ⟨t, q, h1, h⟩ := V.onIfc_inv (opd_inv (k := fun v => v.onIfc fun t q => E.kp (.ifc t q) tm hp nx) h fr hp nx)
  exact qo_panic ho h1 ⟨tm, hp, nx, rfl, h⟩

noncomputable def pushK (tm : Tm) (v : V) (k : Tm → Ans) : Ans := (acc2 V 255).get tm fun u => u.onDefs ((acc2 V 255).upd tm (.tup [v]) k) (fun l => (acc2 V 255).upd tm (.tup (v :: l)) k)
theorem pushK_inv {tm : Tm} {v : V} {k : Tm → Ans} (h : pushK tm v k = .ok) : ∃ tm', k tm' = .ok ∧ ∀ (fr : Fr) (hp : Hp) (nx : Nat), ({ absS fr tm hp nx with defs := v :: absD tm } : St) = absS fr tm' hp nx := by
  obtain ⟨_, h⟩ := acc2_get h
  have key : ∀ l, absD tm = l → (acc2 V 255).upd tm (.tup (v :: l)) k = .ok → ∃ tm', k tm' = .ok ∧ ∀ (fr : Fr) (hp : Hp) (nx : Nat), ({ absS fr tm hp nx with defs := v :: absD tm } : St) = absS fr tm' hp nx := by
    intro l hl h
    obtain ⟨_, h⟩ := acc2_upd h
    refine ⟨_, h, fun fr hp nx => ?_⟩
    unfold absS
    have e1 : absT (put2 tm 255 (.tup (v :: l))) = absT tm := by
      funext t
      unfold absT
      by_cases e : t < 255
      · rw [if_pos e, if_pos e, get_put2 _ _ _ _ (by omega) (by omega), if_neg (by omega)]
      · rw [if_neg e, if_neg e]
    have e2 : absD (put2 tm 255 (.tup (v :: l))) = v :: l := by
      unfold absD
      rw [get_put2 _ _ _ _ (by omega) (by omega), if_pos rfl]
    rw [e1, e2, hl]
  rcases V.onDefs_inv h with ⟨l, h1, h⟩ | ⟨h1, h⟩
  · exact key l (by unfold absD; rw [h1]) h
  · refine key [] ?_ h
    unfold absD
    split
    · rename_i l hl; exact (h1 l hl).elim
    · rfl

noncomputable def lDefer (d : Option Tmp) (fo : Operand) : LOp := ⟨fun E _ tm hp nx k => (opd fo).get tm fun v => v.onFn fun f caps => pushK tm (.fn f caps) fun tm' => (updD d).run tm' (.sc undef) fun tm'' => k tm'' hp nx⟩
theorem lDefer_spec {o : Oper} {fo : Operand} {ats : Array TypeId} (ho : o.op = .defer { callee := .value fo, args := #[], argTypes := ats }) : LSpec ρ P o (lDefer o.dst fo) := by
  intro fr E cs tm hp nx k kn hf hc hd h
  obtain ⟨f, caps, h1, h⟩ := V.onFn_inv (opd_inv (k := fun v => v.onFn fun f caps => pushK tm (.fn f caps) fun tm' => (updD o.dst).run tm' (.sc undef) fun tm'' => k tm'' hp nx) h fr hp nx)
  obtain ⟨tm', h, h2⟩ := pushK_inv h
  obtain ⟨tm'', h, h3⟩ := updD_inv h
  refine qo_defer ho h1 hd ?_
  have : ({ absS fr tm hp nx with defs := .fn f caps :: (absS fr tm hp nx).defs } : St) = absS fr tm' hp nx := h2 fr hp nx
  rw [this, h3]
  exact nk_of h

/-! ### append of noughts -/

noncomputable def lAppendZ (P : Program) (d : Option Tmp) (t tx : TypeId) (s x : Operand) : LOp := match elOf P t, P.underlying tx with
  | some el, some (.int _) => match el.z.all V.one with
    | true => ⟨fun E _ tm hp nx k => (opd s).get tm fun sv => (opd x).get tm fun xv => xv.onInt fun _ z => onNat z fun n => must (Nat.ble 1 n) (sv.onSl (fun _ _ _ _ => .err 162)
        (fun w => must (isNilSl w) (must (Nat.ble n 9223372036854775807) (must (Nat.ble (Nat.mul n el.eb) 281474976710656) (startK E.lm el.es (List.replicate n el.z) n fun ob => newK d ob (.sl nx 0 n false) tm hp nx k)))))⟩
    | false => lbad 163
  | _, _ => lbad 139
theorem lAppendZ_spec {o : Oper} {t tx : TypeId} {s x : Operand} (ho : isAppend o s x t tx) : LSpec ρ P o (lAppendZ P o.dst t tx s x) := by
  unfold lAppendZ
  split
  · rename_i el kd hel htx
    split
    · rename_i hone
      obtain ⟨he1, he2, _, te, hte, hz⟩ := elOf_ok hel
      intro fr E cs tm hp nx k kn hf hc hd h
      have h := opd_inv (opd_inv (x := s) (k := fun sv => (opd x).get tm _) h fr hp nx) fr hp nx
      obtain ⟨kx, z, hx, h⟩ := V.onInt_inv h
      obtain ⟨n, hn, h⟩ := onNat_inv h
      subst hn
      obtain ⟨h0, h⟩ := must_inv h
      rcases V.onSl_inv h with ⟨_, _, _, _, _, h⟩ | ⟨w, hs, h⟩
      · exact Ans.no h
      · obtain ⟨h1, q1⟩ := must_inv h
        obtain ⟨h2, q2⟩ := must_inv q1
        obtain ⟨h3, q3⟩ := must_inv q2
        have hw := isNilSl_ok h1
        subst hw
        obtain ⟨ob, h4, h5⟩ := startK_inv (List.length_replicate ..) q3
        have := newK_inv h4 fr
        rw [h5] at this
        refine qo_appendZ ho hs hx he1 hte (by rw [hz]; exact hone) htx he2 (Nat.le_of_ble_eq_true h0) (Nat.le_of_ble_eq_true h2) (Nat.le_of_ble_eq_true h3) hd ?_
        rw [hz]
        exact this
    · exact lspec_bad
  · exact lspec_bad

/-! ### copy, clear -/

noncomputable def rowsSetK (L : List (List V)) : KOb → Nat → (KOb → Ans) → Ans :=
  List.rec (motive := fun _ => KOb → Nat → (KOb → Ans) → AnsT) (fun ob _ k => k ob)
    (fun row' _ ih ob off k => ob.row off fun row => must (Nat.beq row'.length row.length) (ob.setRowK off row' fun ob' => forceN (Nat.succ off) fun off' => ih ob' off' k)) L
theorem rowsSetK_inv : ∀ {L : List (List V)} {ob : KOb} {off : Nat} {k : KOb → Ans} {x : Ob}, absK ob = some x → rowsSetK L ob off k = .ok →
    ∃ ob', absK ob' = some (setRows x off L) ∧ k ob' = .ok ∧ ∀ r, r < L.length → ∃ row, x.row (off + r) = some row
  | [], ob, off, k, x, hx, h => by
    refine ⟨ob, ?_, h, fun r hr => by simp at hr⟩
    rw [hx]
    congr 1
    obtain ⟨s, row, mp⟩ := x
    unfold setRows
    congr 1
    funext j
    simp only [List.length_nil, Nat.add_zero]
    rw [if_neg (by omega)]
  | row' :: L, ob, off, k, x, hx, h => by
    have h : (ob.row off fun row => must (Nat.beq row'.length row.length) (ob.setRowK off row' fun ob' => forceN (Nat.succ off) fun off' => rowsSetK L ob' off' k)) = .ok := h
    obtain ⟨y, row, h1, hmp, h2, h⟩ := KOb.row_inv h
    rw [hx] at h1
    cases h1
    obtain ⟨h3, h⟩ := must_inv h
    obtain ⟨ob1, h4, h⟩ := KOb.setRowK_inv hx h2 (Nat.eq_of_beq_eq_true h3) h
    rw [forceN_eq] at h
    obtain ⟨ob2, h5, h6, h7⟩ := rowsSetK_inv (L := L) h4 h
    refine ⟨ob2, ?_, h6, fun r hr => ?_⟩
    · rw [h5]
      congr 1
      unfold setRows setRow
      congr 1
      funext j
      simp only [List.length_cons]
      by_cases e1 : off + 1 ≤ j ∧ j < off + 1 + L.length
      · rw [if_pos e1, if_pos (by omega), show j - off = (j - (off + 1)) + 1 by omega, List.getElem?_cons_succ]
      · rw [if_neg e1]
        by_cases e2 : j = off
        · subst e2
          rw [if_pos rfl, if_pos (by omega), Nat.sub_self]
          rfl
        · rw [if_neg e2, if_neg (by omega)]
    · cases r with
      | zero => exact ⟨row, h2⟩
      | succ r =>
        obtain ⟨row2, h8⟩ := h7 r (by simpa using hr)
        have h8 : (if off + 1 + r = off then some row' else x.row (off + 1 + r)) = some row2 := h8
        rw [if_neg (by omega)] at h8
        exact ⟨row2, by rw [show off + (r + 1) = off + 1 + r by omega]; exact h8⟩

noncomputable def takeR (n : Nat) : List (List V) → (List (List V) → Ans) → Ans :=
  Nat.rec (motive := fun _ => List (List V) → (List (List V) → Ans) → AnsT) (fun _ k => k []) (fun _ ih l k => List.rec (motive := fun _ => AnsT) (.err 79) (fun x t _ => ih t fun r => k (x :: r)) l) n
theorem takeR_inv : ∀ {n : Nat} {l : List (List V)} {k : List (List V) → Ans}, takeR n l k = .ok → (l.take n).length = n ∧ k (l.take n) = .ok
  | 0, l, k, h => ⟨by simp, (h : k [] = .ok)⟩
  | n + 1, [], _, h => Ans.no h
  | n + 1, x :: l, k, h => by
    obtain ⟨h1, h2⟩ := takeR_inv (n := n) (l := l) (k := fun r => k (x :: r)) h
    exact ⟨by simp [h1], by simpa using h2⟩

noncomputable def minK (a b : Nat) (k : Nat → Ans) : Ans := boolK (Nat.ble a b) (k a) (k b)
theorem minK_inv {a b : Nat} {k : Nat → Ans} (h : minK a b k = .ok) : k (min a b) = .ok := by
  rcases boolK_inv h with ⟨h1, h⟩ | ⟨h1, h⟩
  · have := Nat.le_of_ble_eq_true h1
    rwa [Nat.min_eq_left this]
  · have := ble_false h1
    rwa [Nat.min_eq_right (by omega)]

noncomputable def lCopy (P : Program) (d : Option Tmp) (t : TypeId) (dd x : Operand) : LOp := match elOf P t with
  | some el => ⟨fun E cs tm hp nx k => (opd dd).get tm fun dv => (opd x).get tm fun xv => srcK el.es xv hp fun m l => dv.onSl
      (fun j off len _ => minK m len fun n => boolK (Nat.beq n 0) ((updD d).run tm (.int .i64 (.ofNat 0)) fun tm' => k tm' hp nx)
        (noneK j E.forb (noneK j cs ((acc4 KOb j).get hp fun ob => ob.ofS el.es (takeR n l fun L => rowsSetK L ob off fun ob' => (acc4 KOb j).upd hp ob' fun hp' => (updD d).run tm (.int .i64 (.ofNat n)) fun tm' => k tm' hp' nx)))))
      (fun w => must (isNilSl w) ((updD d).run tm (.int .i64 (.ofNat 0)) fun tm' => k tm' hp nx))⟩
  | none => lbad 155
theorem lCopy_spec {o : Oper} {t tx : TypeId} {dd x : Operand} (ho : o.op = .call { callee := .builtin .copy, args := #[dd, x], argTypes := #[t, tx] }) : LSpec ρ P o (lCopy P o.dst t dd x) := by
  unfold lCopy
  split
  · rename_i el hel
    obtain ⟨he1, he2, _, _⟩ := elOf_ok hel
    intro fr E cs tm hp nx k kn hf hc hd h
    have h := opd_inv (opd_inv (x := dd) (k := fun dv => (opd x).get tm _) h fr hp nx) fr hp nx
    obtain ⟨m, l, g, hsrc, hl, hg, h⟩ := srcK_inv h fr tm nx
    have hsome : ∀ r, r < m → (g r).isSome = true := fun r hr => by rw [hg r hr, List.getElem?_eq_getElem (by omega)]; rfl
    rcases V.onSl_inv h with ⟨j, off, len, full, hs, h⟩ | ⟨w, hs, h⟩
    · have h := minK_inv h
      rcases boolK_inv h with ⟨h0, h⟩ | ⟨h0, h⟩
      · have h0 := Nat.eq_of_beq_eq_true h0
        obtain ⟨tm', h, h2⟩ := updD_inv h
        refine qo_copy0 (n := len) ho he1 he2 (.inl ⟨_, _, _, _, hs, rfl⟩) hsrc hsome h0 hd ?_
        rw [h2]
        exact nk_of h
      · have h0 := beq_false' h0
        obtain ⟨g1, h⟩ := noneK_inv h
        obtain ⟨g2, h⟩ := noneK_inv h
        obtain ⟨ob, h3, h⟩ := ob_inv h
        obtain ⟨⟨y, h4, hmp, h5⟩, h⟩ := KOb.ofS_inv h
        obtain ⟨hLl, h⟩ := takeR_inv h
        obtain ⟨ob', h6, h, h7⟩ := rowsSetK_inv h4 h
        obtain ⟨g3, h⟩ := acc4_upd h
        obtain ⟨tm', h, h8⟩ := updD_inv h
        refine qo_copy (L := l.take (min m len)) ho hs (h3.trans h4) hmp h5 hsrc hsome he1 he2 rfl (by omega) hLl (fun r hr => ?_) (fun r hr => h7 r (by omega)) hd (by rw [hf] at g1; exact g1) g2 ?_
        · rw [hg r (by omega), List.getElem?_take_of_lt hr]
        · refine ⟨tm', put4 hp j ob', nx, ?_, h⟩
          rw [← h8]
          unfold absS
          rw [absO_put g3, h6]
    · obtain ⟨h1, h⟩ := must_inv h
      have hw := isNilSl_ok h1
      subst hw
      obtain ⟨tm', h, h2⟩ := updD_inv h
      refine qo_copy0 (n := 0) ho he1 he2 (.inr ⟨hs, rfl⟩) hsrc hsome (Nat.min_zero _) hd ?_
      rw [h2]
      exact nk_of h
  · exact lspec_bad

noncomputable def lClear (P : Program) (d : Option Tmp) (t : TypeId) (dd : Operand) : LOp := match elOf P t with
  | some el => match el.z.all V.one with
    | true => ⟨fun E cs tm hp nx k => (opd dd).get tm fun dv => dv.onSl
      (fun j off len _ => boolK (Nat.beq len 0) ((updD d).run tm (.tup []) fun tm' => k tm' hp nx)
        (noneK j E.forb (noneK j cs ((acc4 KOb j).get hp fun ob => ob.ofS el.es (rowsSetK (List.replicate len el.z) ob off fun ob' => (acc4 KOb j).upd hp ob' fun hp' => (updD d).run tm (.tup []) fun tm' => k tm' hp' nx)))))
      (fun w => must (isNilSl w) ((updD d).run tm (.tup []) fun tm' => k tm' hp nx))⟩
    | false => lbad 156
  | none => lbad 157
theorem lClear_spec {o : Oper} {t : TypeId} {dd : Operand} (ho : o.op = .call { callee := .builtin .clear, args := #[dd], argTypes := #[t] }) : LSpec ρ P o (lClear P o.dst t dd) := by
  unfold lClear
  split
  · rename_i el hel
    split
    · rename_i hone
      obtain ⟨he1, he2, _, te, hte, hz⟩ := elOf_ok hel
      intro fr E cs tm hp nx k kn hf hc hd h
      have h := opd_inv (x := dd) h fr hp nx
      rcases V.onSl_inv h with ⟨j, off, len, full, hs, h⟩ | ⟨w, hs, h⟩
      · rcases boolK_inv h with ⟨h0, h⟩ | ⟨h0, h⟩
        · have h0 := Nat.eq_of_beq_eq_true h0
          subst h0
          obtain ⟨tm', h, h2⟩ := updD_inv h
          refine qo_clear0 ho he1.und (.inl ⟨_, _, _, hs⟩) hd ?_
          rw [h2]
          exact nk_of h
        · have h0 := beq_false' h0
          obtain ⟨g1, h⟩ := noneK_inv h
          obtain ⟨g2, h⟩ := noneK_inv h
          obtain ⟨ob, h3, h⟩ := ob_inv h
          obtain ⟨⟨y, h4, hmp, h5⟩, h⟩ := KOb.ofS_inv h
          obtain ⟨ob', h6, h, h7⟩ := rowsSetK_inv h4 h
          obtain ⟨g3, h⟩ := acc4_upd h
          obtain ⟨tm', h, h8⟩ := updD_inv h
          refine qo_clear (L := List.replicate len el.z) ho hs (h3.trans h4) hmp h5 he1 hte (by rw [hz]; exact hone) he2 (by omega) (by rw [hz]) (fun r hr => h7 r (by simpa using hr)) hd (by rw [hf] at g1; exact g1) g2 ?_
          refine ⟨tm', put4 hp j ob', nx, ?_, h⟩
          rw [← h8]
          unfold absS
          rw [absO_put g3, h6]
      · obtain ⟨h1, h⟩ := must_inv h
        have hw := isNilSl_ok h1
        subst hw
        obtain ⟨tm', h, h2⟩ := updD_inv h
        refine qo_clear0 ho he1.und (.inr hs) hd ?_
        rw [h2]
        exact nk_of h
    · exact lspec_bad
  · exact lspec_bad

/-! ### Which is which -/

noncomputable def lcall (P : Program) (d : Option Tmp) (c : Call) : LOp := match c.callee with
  | .value fo => lCall P d fo c.args.toList
  | .builtin .append => match c.args.toList, c.argTypes.toList with
    | [s, x], [t, tx] => match txB P tx with
      | true => lAppend P d t tx s x
      | false => lAppendZ P d t tx s x
    | _, _ => lbad 141
  | .builtin .copy => match c.args.toList, c.argTypes.toList with
    | [s, x], [t, _] => lCopy P d t s x
    | _, _ => lbad 158
  | .builtin .clear => match c.args.toList, c.argTypes.toList with
    | [s], [t] => lClear P d t s
    | _, _ => lbad 159
  | _ => lbad 142
theorem lcall_spec {o : Oper} {c : Call} (ho : o.op = .call c) : LSpec ρ P o (lcall P o.dst c) := by
  obtain ⟨callee, args, ats⟩ := c
  unfold lcall
  simp only
  split
  · exact lCall_spec ho
  · split
    · rename_i s x t tx hx ht
      rw [arr_of hx, arr_of ht] at ho
      split
      · exact lAppend_spec ho
      · exact lAppendZ_spec ho
    · exact lspec_bad
  · split
    · rename_i s x t tx hx ht
      refine lCopy_spec (tx := tx) ?_
      rw [arr_of hx, arr_of ht] at ho
      exact ho
    · exact lspec_bad
  · split
    · rename_i s t hx ht
      refine lClear_spec ?_
      rw [arr_of hx, arr_of ht] at ho
      exact ho
    · exact lspec_bad
  · exact lspec_bad

/-! ### A text's bytes -/

noncomputable def lStrBytes (P : Program) (d : Option Tmp) (t u : TypeId) (x : Operand) : LOp := match StrBytes P t u with
  | true => ⟨fun E cs tm hp nx k => (opd x).get tm fun v => v.onPs fun len n => (updD d).run tm (.ro 1 (byteRows len n)) fun tm' => k tm' hp nx⟩
  | false => lbad 146
theorem lStrBytes_spec {o : Oper} {t u : TypeId} {x : Operand} (ho : o.op = .convert t u x) : LSpec ρ P o (lStrBytes P o.dst t u x) := by
  unfold lStrBytes
  split
  · rename_i ht
    intro fr E cs tm hp nx k kn hf hc hd h
    have h := opd_inv (k := fun v => v.onPs fun len n => (updD o.dst).run tm (.ro 1 (byteRows len n)) fun tm' => k tm' hp nx) h fr hp nx
    obtain ⟨len, n, hx, h⟩ := V.onPs_inv h
    obtain ⟨tm', h, h2⟩ := updD_inv h
    refine qo_strBytes ho hx ht hd ?_
    rw [h2]
    exact nk_of h
  · exact lspec_bad

/-! ### A slice of bytes as what nobody writes any more -/

/-- Rows of one number each. -/
noncomputable def rowsI (ob : KOb) (l : Nat) : Nat → (List (List V) → Ans) → Ans :=
  Nat.rec (motive := fun _ => Nat → (List (List V) → Ans) → Ans) (fun _ k => k []) (fun _ ih off k => ob.row off fun row => sizeOne row fun q => q.onInt fun kd n => forceN (Nat.succ off) fun off' => ih off' fun rows => k ([.int kd n] :: rows)) l
theorem rowsI_inv {ob : KOb} {x : Ob} (hx : absK ob = some x) : ∀ {l off : Nat} {k : List (List V) → Ans}, rowsI ob l off k = .ok → ∃ rows, rows.length = l ∧ (∀ (r : Nat) (row : List V), rows[r]? = some row → x.row (off + r) = some row ∧ ∀ q ∈ row, q.flat = true) ∧ k rows = .ok
  | 0, off, k, h => ⟨[], rfl, by simp, h⟩
  | l + 1, off, k, h => by
    have h : (ob.row off fun row => sizeOne row fun q => q.onInt fun kd n => forceN (Nat.succ off) fun off' => rowsI ob l off' fun rows => k ([.int kd n] :: rows)) = .ok := h
    obtain ⟨y, row, h1, hmp, h2, h⟩ := KOb.row_inv h
    rw [hx] at h1
    cases h1
    obtain ⟨q, h3, h⟩ := sizeOne_inv h
    obtain ⟨kd, n, h4, h⟩ := V.onInt_inv h
    rw [forceN_eq] at h
    obtain ⟨rows, h5, h6, h⟩ := rowsI_inv hx h
    refine ⟨[.int kd n] :: rows, by simp [h5], fun r row' hr => ?_, h⟩
    cases r with
    | zero =>
      simp at hr
      subst hr
      subst h3 h4
      exact ⟨h2, fun q hq => by simp at hq; subst hq; rfl⟩
    | succ r =>
      simp at hr
      have := h6 r row' hr
      rw [show off + (r + 1) = Nat.succ off + r by omega]
      exact this

noncomputable def lSelfBytes (P : Program) (d : Option Tmp) (t u : TypeId) (x : Operand) : LOp := match SelfBytes P t u with
  | true => ⟨fun E cs tm hp nx k => (opd x).get tm fun v => v.onSl (fun j off len _ => (acc4 KOb j).get hp fun ob => must (Nat.beq off 0) (ob.ofS 1 (rowsI ob len 0 fun rows => noneK j E.forb (noneK j cs ((acc4 KOb j).upd hp .no fun hp' => (updD d).run tm (.ro 1 rows) fun tm' => k tm' hp' nx))))) (fun _ => .err 147)⟩
  | false => lbad 148
theorem lSelfBytes_spec {o : Oper} {t u : TypeId} {x : Operand} (ho : o.op = .convert t u x) : LSpec ρ P o (lSelfBytes P o.dst t u x) := by
  unfold lSelfBytes
  split
  · rename_i ht
    intro fr E cs tm hp nx k kn hf hc hd h
    have h := opd_inv (k := fun v => v.onSl (fun j off len _ => (acc4 KOb j).get hp fun ob => must (Nat.beq off 0) (ob.ofS 1 (rowsI ob len 0 fun rows => noneK j E.forb (noneK j cs ((acc4 KOb j).upd hp .no fun hp' => (updD o.dst).run tm (.ro 1 rows) fun tm' => k tm' hp' nx))))) (fun _ => .err 147)) h fr hp nx
    rcases V.onSl_inv h with ⟨j, off, len, full, hx, h⟩ | ⟨w, _, h⟩
    · obtain ⟨ob, h3, h⟩ := ob_inv h
      obtain ⟨h0, h⟩ := must_inv h
      have h0 := Nat.eq_of_beq_eq_true h0
      subst h0
      obtain ⟨⟨y, h4, hmp, h5⟩, h⟩ := KOb.ofS_inv h
      obtain ⟨rows, h6, h7, h⟩ := rowsI_inv h4 h
      obtain ⟨g1, h⟩ := noneK_inv h
      obtain ⟨g2, h⟩ := noneK_inv h
      obtain ⟨g3, h⟩ := acc4_upd h
      obtain ⟨tm', h, h2⟩ := updD_inv h
      refine qo_selfBytes ho hx ht (h3.trans h4) hmp h5 h6 (fun r row hr => by have := h7 r row hr; rwa [Nat.zero_add] at this) g2 (by rw [hf] at g1; exact g1) hd ?_
      have e : ({ absS fr tm hp nx with objs := Objs.put (absS fr tm hp nx).objs j none } : St) = absS fr tm (put4 hp j .no) nx := by
        show ({ absS fr tm hp nx with objs := Objs.put (absO hp) j none } : St) = _
        rw [show Objs.put (absO hp) j none = absO (put4 hp j .no) from (absO_put (ob := .no) g3).symm]
        rfl
      rw [e, h2]
      exact nk_of h
    · exact Ans.no h
  · exact lspec_bad

noncomputable def lop (P : Program) (o : Oper) : LOp := match o.op with
  | .alloc t => lAlloc P o.dst t
  | .box _ x => lBox o.dst x
  | .buildSlice t n parts => lBuildSlice P o.dst t n parts.toList
  | .makeSlice t x y => lMake P o.dst t x y
  | .store t x y => match o.dst with
    | none => lStore P t x y
    | some _ => lbad 143
  | .call c => lcall P o.dst c
  | .panic x => lPanic x
  | .defer c => match c.callee, c.args.toList with
    | .value fo, [] => lDefer o.dst fo
    | _, _ => lbad 144
  | .convert t u x => match SelfBytes P t u with
    | true => lSelfBytes P o.dst t u x
    | false => lStrBytes P o.dst t u x
  | .makeMap _ r => lMakeMap o.dst r
  | .lookup t x ix ok => lLookup P o.dst t x ix ok
  | .mapUpdate t x ix y => lMapUpdate P o.dst t x ix y
  | .insert t x ix y => lMapUpdate P o.dst t x ix y
  | _ => lbad 145

theorem lop_spec {o : Oper} : LSpec ρ P o (lop P o) := by
  unfold lop
  split
  case h_1 h1 => exact lAlloc_spec h1
  case h_2 h1 => exact lBox_spec h1
  case h_3 h1 => exact lBuildSlice_spec h1
  case h_4 h1 => exact lMake_spec h1
  case h_5 h1 =>
    split
    · rename_i hd
      exact lStore_spec h1 hd
    · exact lspec_bad
  case h_6 h1 => exact lcall_spec h1
  case h_7 h1 => exact lPanic_spec h1
  case h_8 c h1 =>
    obtain ⟨callee, args, ats⟩ := c
    simp only
    split
    · rename_i fo hc ha
      refine lDefer_spec (ats := ats) ?_
      rw [h1, arr_of ha]
    · exact lspec_bad
  case h_9 h1 =>
    split
    · exact lSelfBytes_spec h1
    · exact lStrBytes_spec h1
  case h_10 h1 => exact lMakeMap_spec h1
  case h_11 h1 => exact lLookup_spec h1
  case h_12 h1 => exact lMapUpdate_spec (.inl h1)
  case h_13 h1 => exact lMapUpdate_spec (.inr h1)
  case h_14 => exact lspec_bad

end Go.Proofs.YtibmbbogjkecoaaDoor.M

/- Code, functions, as the kernel runs them. -/
namespace Go.Proofs.YtibmbbogjkecoaaDoor.M
open Go Go.RowKit
set_option linter.unusedSimpArgs false
set_option linter.unusedVariables false

variable {ρ : Nat → Value} {P : Program}

/-! ### Regions in the order of the text -/

structure Ch where
  run : Env → HsT → Tm → Hp → Nat → K3 → Ans

def isTupV : Value → Bool
  | .tuple _ => true
  | _ => false

/-- An operation under its guard: it is wanted, or it is not. -/
noncomputable def guardC (ops : Array Oper) (o : Oper) (y n : Ch) : Ch := match o.guard with
  | none => y
  | some (j, b) => match (ops[j]?).bind (·.dst) with
    | some t => match Nat.ble (Nat.succ t) 255 with
      | true => ⟨fun E hs tm hp nx k => (acc2 V t).get tm fun v => v.onGuard (fun x => boolK (x == b) (y.run E hs tm hp nx k) (n.run E hs tm hp nx k)) (fun w => must (isTupV w) (n.run E hs tm hp nx k))⟩
      | false => ⟨fun _ _ _ _ _ _ => .err 82⟩
    | none => ⟨fun _ _ _ _ _ _ => .err 83⟩

theorem guardC_inv {ops : Array Oper} {o : Oper} {y n : Ch} {E : Env} {hs : HsT} {tm : Tm} {hp : Hp} {nx : Nat} {k : K3} (h : (guardC ops o y n).run E hs tm hp nx k = .ok) (fr : Fr) :
    (wantV ops (absS fr tm hp nx) o = some true ∧ y.run E hs tm hp nx k = .ok) ∨ (wantV ops (absS fr tm hp nx) o = some false ∧ n.run E hs tm hp nx k = .ok) := by
  unfold guardC at h
  unfold wantV
  split at h
  · rename_i hg
    rw [hg]
    exact .inl ⟨rfl, h⟩
  · rename_i j b hg
    rw [hg]
    simp only
    split at h
    · rename_i t ht
      rw [ht]
      simp only
      split at h
      · rename_i hle
        obtain ⟨_, h⟩ := acc2_get h
        have hlt : t < 255 := Nat.le_of_ble_eq_true hle
        have e : (absS fr tm hp nx).tmps t = get2 tm t := by
          show absT tm t = _
          unfold absT
          rw [if_pos hlt]
        rw [e]
        rcases V.onGuard_inv h with ⟨x, hx, h⟩ | ⟨w, hx, h⟩
        · rw [hx]
          rcases boolK_inv h with ⟨h1, h⟩ | ⟨h1, h⟩
          · exact .inl ⟨congrArg some h1, h⟩
          · exact .inr ⟨congrArg some h1, h⟩
        · obtain ⟨h1, h⟩ := must_inv h
          rw [hx]
          refine .inr ⟨?_, h⟩
          unfold isTupV at h1
          split at h1
          · rfl
          · cases h1
      · exact Ans.no h
    · exact Ans.no h

noncomputable def skipC (o : Oper) (next : Ch) : Ch := ⟨fun E hs tm hp nx k => (updD o.dst).run tm (.sc undef) fun tm' => next.run E hs tm' hp nx k⟩
noncomputable def quietC (o : Oper) (q : QOp) (next : Ch) : Ch := ⟨fun E hs tm hp nx k => q.run tm hp hs fun v hs' => (updD o.dst).run tm v fun tm' => next.run E hs' tm' hp nx k⟩
noncomputable def stepC (P : Program) (ops : Array Oper) (i : Nat) (o : Oper) (next : Ch) : Ch := guardC ops o
  (match qop P i o with
    | some q => quietC o q next
    | none => ⟨fun E hs tm hp nx k => (lop P o).run E [] tm hp nx fun tm hp nx => next.run E hs tm hp nx k⟩)
  (skipC o next)

noncomputable def chain (P : Program) (ops : Array Oper) (l : List Oper) : Nat → Ch :=
  List.rec (motive := fun _ => Nat → Ch) (fun _ => ⟨fun _ _ tm hp nx k => k tm hp nx⟩) (fun o _ ih i => stepC P ops i o (ih (Nat.succ i))) l

theorem chain_sound {ops : Array Oper} {fr : Fr} {E : Env} (hf : E.forb = fr.forb) (hc : CallOK ρ P E.call) {k : K3} : ∀ (l : List Oper) (i : Nat) (hs : HsT) (tm : Tm) (hp : Hp) (nx : Nat), (∀ o ∈ l, ∀ t, o.dst = some t → t < fr.n) →
    (chain P ops l i).run E hs tm hp nx k = .ok → QS ρ P ops (KE fr E k) l (absS fr tm hp nx)
  | [], i, hs, tm, hp, nx, _, h => qs_done (nk_of h)
  | o :: l, i, hs, tm, hp, nx, hd, h => by
    have hdo : dstOK o (absS fr tm hp nx) := hd o List.mem_cons_self
    have hrest : ∀ o ∈ l, ∀ t, o.dst = some t → t < fr.n := fun o ho => hd o (List.mem_cons_of_mem _ ho)
    rcases guardC_inv h fr with ⟨hw, h⟩ | ⟨hw, h⟩
    · split at h
      · rename_i q hq
        obtain ⟨v, ids, h, h2⟩ := qop_spec (ρ := ρ) hq fr tm hp nx hs _ h
        obtain ⟨tm', h, h3⟩ := updD_inv h
        refine qs_by hw (qo_quiet h2 hdo ?_)
        rw [h3]
        exact chain_sound hf hc l _ _ _ _ _ hrest h
      · have := lop_spec (ρ := ρ) (o := o) fr E [] tm hp nx _ k hf hc hdo h
        refine qs_by hw (this.mono ?_)
        rintro σ ⟨tm', hp', nx', rfl, h⟩
        exact chain_sound hf hc l _ _ _ _ _ hrest h
    · obtain ⟨tm', h, h3⟩ := updD_inv h
      refine qs_skip hw hdo ?_
      rw [h3]
      exact chain_sound hf hc l _ _ _ _ _ hrest h

/-! ### Regions whose order is drawn -/

/-- A step of a plan: one that only looks is taken ahead; the one that must come up now, and which of those that were taken ahead may yet come up later. -/
inductive Step where
  | q (i : Nat)
  | l (u : Nat) (keep : List Nat)

def memN (i : Nat) : List Nat → Bool
  | [] => false
  | j :: l => Nat.beq i j || memN i l
theorem memN_iff {i : Nat} : ∀ {l : List Nat}, memN i l = true ↔ i ∈ l
  | [] => by simp [memN]
  | j :: l => by
    simp only [memN, Bool.or_eq_true, List.mem_cons, memN_iff (l := l)]
    constructor
    · exact fun h => h.imp Nat.eq_of_beq_eq_true id
    · exact fun h => h.imp (fun e => by rw [e]; exact Nat.beq_refl _) id

noncomputable def keepK (keep : List Nat) (hs : HsT) (k : HsT → List PC → Ans) : Ans :=
  List.rec (motive := fun _ => (HsT → List PC → Ans) → Ans) (fun k => k [] []) (fun x _ ih k => boolK (memN x.1 keep) (ih fun hs cs => k (x :: hs) (x.2 :: cs)) (ih k)) hs k
theorem keepK_inv {keep : List Nat} : ∀ {hs : HsT} {k : HsT → List PC → Ans}, keepK keep hs k = .ok → ∃ hs' cs, k hs' cs = .ok ∧ (∀ x ∈ hs, x ∈ hs' ∨ x.1 ∉ keep) ∧ ∀ x ∈ hs', x.2 ∈ cs ∧ x ∈ hs
  | [], k, h => ⟨[], [], h, by simp, by simp⟩
  | x :: hs, k, h => by
    rcases boolK_inv h with ⟨h1, h⟩ | ⟨h1, h⟩
    · obtain ⟨hs', cs, h, h2, h3⟩ := keepK_inv (hs := hs) h
      refine ⟨_, _, h, fun y hy => ?_, fun y hy => ?_⟩
      · rcases List.mem_cons.mp hy with e | e
        · exact .inl (by rw [e]; exact List.mem_cons_self)
        · exact (h2 y e).imp (List.mem_cons_of_mem _) id
      · rcases List.mem_cons.mp hy with e | e
        · rw [e]; exact ⟨List.mem_cons_self, List.mem_cons_self⟩
        · exact ⟨List.mem_cons_of_mem _ (h3 y e).1, List.mem_cons_of_mem _ (h3 y e).2⟩
    · obtain ⟨hs', cs, h, h2, h3⟩ := keepK_inv (hs := hs) (k := k) h
      refine ⟨hs', cs, h, fun y hy => ?_, fun y hy => ⟨(h3 y hy).1, List.mem_cons_of_mem _ (h3 y hy).2⟩⟩
      rcases List.mem_cons.mp hy with e | e
      · refine .inr fun g => ?_
        rw [e, ← memN_iff] at g
        rw [g] at h1
        cases h1
      · exact h2 y e

noncomputable def loudC (P : Program) (o : Oper) (keep : List Nat) (next : Ch) : Ch := ⟨fun E hs tm hp nx k => keepK keep hs fun hs' cs => (lop P o).run E cs tm hp nx fun tm hp nx => next.run E hs' tm hp nx k⟩
noncomputable def skipL (o : Oper) (keep : List Nat) (next : Ch) : Ch := ⟨fun E hs tm hp nx k => keepK keep hs fun hs' cs => (updD o.dst).run tm (.sc undef) fun tm' => next.run E hs' tm' hp nx k⟩

noncomputable def stepD (P : Program) (ops : Array Oper) (s : Step) (next : Ch) : Ch := match s with
  | .q i => match ops[i]? with
    | some o => guardC ops o (match qop P i o with
      | some q => quietC o q next
      | none => ⟨fun _ _ _ _ _ _ => .err 84⟩) (skipC o next)
    | none => ⟨fun _ _ _ _ _ _ => .err 85⟩
  | .l u keep => match ops[u]? with
    | some o => guardC ops o (loudC P o keep next) (skipL o keep next)
    | none => ⟨fun _ _ _ _ _ _ => .err 86⟩

/-- What a step that only looks takes ahead. -/
theorem stepD_q {ops : Array Oper} {i : Nat} {o : Oper} (ho : ops[i]? = some o) {next : Ch} {E : Env} {hs : HsT} {tm : Tm} {hp : Hp} {nx : Nat} {k : K3} (h : (stepD P ops (.q i) next).run E hs tm hp nx k = .ok) (fr : Fr) :
    ∃ (v : V) (es : List PC) (tm' : Tm), ((wantV ops (absS fr tm hp nx) o = some true ∧ QQ ρ P (absS fr tm hp nx) (inL es) o v) ∨ (wantV ops (absS fr tm hp nx) o = some false ∧ v = .sc undef)) ∧
      (absS fr tm hp nx).put o.dst v = absS fr tm' hp nx ∧ next.run E (es.map (fun e => (i, e)) ++ hs) tm' hp nx k = .ok := by
  have h : (match ops[i]? with
    | some o => guardC ops o (match qop P i o with
      | some q => quietC o q next
      | none => ⟨fun _ _ _ _ _ _ => .err 84⟩) (skipC o next)
    | none => ⟨fun _ _ _ _ _ _ => .err 85⟩ : Ch).run E hs tm hp nx k = .ok := h
  rw [ho] at h
  rcases guardC_inv h fr with ⟨hw, h⟩ | ⟨hw, h⟩
  · split at h
    · rename_i q hq
      obtain ⟨v, ids, h, h7⟩ := qop_spec (ρ := ρ) hq fr tm hp nx hs _ h
      obtain ⟨tm', h, h8⟩ := updD_inv h
      exact ⟨v, ids, tm', .inl ⟨hw, h7⟩, h8 fr hp nx, h⟩
    · exact Ans.no h
  · obtain ⟨tm', h, h8⟩ := updD_inv h
    exact ⟨_, [], tm', .inr ⟨hw, rfl⟩, h8 fr hp nx, h⟩

/-- What a step brings about that does more. -/
theorem stepD_l {ops : Array Oper} {u : Nat} {keep : List Nat} {o : Oper} (ho : ops[u]? = some o) {next : Ch} {E : Env} {hs : HsT} {tm : Tm} {hp : Hp} {nx : Nat} {k : K3} (h : (stepD P ops (.l u keep) next).run E hs tm hp nx k = .ok) {fr : Fr}
    (hf : E.forb = fr.forb) (hc : CallOK ρ P E.call) (hd : dstOK o (absS fr tm hp nx)) :
    ∃ (hs' : HsT) (cs : List PC), (∀ x ∈ hs, x ∈ hs' ∨ x.1 ∉ keep) ∧ (∀ x ∈ hs', x.2 ∈ cs ∧ x ∈ hs) ∧
      Brings ρ P ops (KE fr E k) u (inL cs) (NK fr fun tm hp nx => next.run E hs' tm hp nx k) (absS fr tm hp nx) := by
  have h : (match ops[u]? with
    | some o => guardC ops o (loudC P o keep next) (skipL o keep next)
    | none => ⟨fun _ _ _ _ _ _ => .err 86⟩ : Ch).run E hs tm hp nx k = .ok := h
  rw [ho] at h
  rcases guardC_inv h fr with ⟨hw, h⟩ | ⟨hw, h⟩
  · obtain ⟨hs', cs, h, h6, h7⟩ := keepK_inv h
    exact ⟨hs', cs, h6, h7, brings_do ho hw (lop_spec (ρ := ρ) (o := o) fr E cs tm hp nx _ k hf hc hd h)⟩
  · obtain ⟨hs', cs, h, h6, h7⟩ := keepK_inv h
    obtain ⟨tm', h, h8⟩ := updD_inv h
    refine ⟨hs', cs, h6, h7, brings_skip ho hw hd ?_⟩
    rw [h8]
    exact ⟨tm', hp, nx, rfl, h⟩

theorem Brings.mono {σ : St} {ops : Array Oper} {K : Ex → St → Prop} {u : Nat} {C : CellP} {N N' : St → Prop} (h : Brings ρ P ops K u C N σ) (hn : ∀ σ, N σ → N' σ) : Brings ρ P ops K u C N' σ :=
  fun X T a w hh => wpOp_mono (fun a' w' ⟨T', σ', h1, h2⟩ => ⟨T', σ', hn _ h1, h2⟩) (h X T a w hh)

/-- Does j come behind i, whatever order is picked? -/
def depB (ops : Array Oper) : Nat → Nat → Nat → Bool
  | 0, _, _ => false
  | n + 1, j, i => match ops[j]? with
    | some o => o.after.any fun e => Region.binds .any e && (Nat.beq e.on i || depB ops n e.on i)
    | none => false
theorem depB_ok {ops : Array Oper} : ∀ {n j i : Nat}, depB ops n j i = true → Dep ops j i
  | 0, _, _, h => by cases h
  | n + 1, j, i, h => by
    unfold depB at h
    split at h
    · rename_i o ho
      rw [Array.any_eq_true] at h
      obtain ⟨m, hm, h⟩ := h
      simp only [Bool.and_eq_true, Bool.or_eq_true] at h
      obtain ⟨hb, h⟩ := h
      have he : o.after[m] ∈ o.after := Array.getElem_mem hm
      rcases h with h | h
      · have := Nat.eq_of_beq_eq_true h
        rw [← this]
        exact .one ho he hb
      · exact .more ho he hb (depB_ok h)
    · cases h

/-- Are the operations that an operation comes behind such as may be given up? -/
def keepB (ops : Array Oper) (u : Nat) (keep : List Nat) : Bool := (List.range ops.size).all (fun s => memN s keep || depB ops ops.size u s)

def dstN (n : Nat) (ks : List Nat) (o : Oper) : Bool := match o.dst with | some t => Nat.ble (Nat.succ t) n && !ks.contains t | none => true
def dstL (n : Nat) (o : Oper) : Bool := match o.dst with | some t => Nat.ble (Nat.succ t) n | none => true
theorem dstN_ok {n : Nat} {fr : Fr} (hn : n ≤ fr.n) {o : Oper} (h : dstN n fr.ks o = true) {tm : Tm} {hp : Hp} {nx : Nat} : dstOK o (absS fr tm hp nx) ∧ ∀ t, o.dst = some t → (absS fr tm hp nx).ks t = false := by
  unfold dstN at h
  constructor
  · intro t ht
    rw [ht] at h
    simp only [Bool.and_eq_true] at h
    exact Nat.lt_of_lt_of_le (Nat.le_of_ble_eq_true h.1) hn
  · intro t ht
    rw [ht] at h
    simp only [Bool.and_eq_true, Bool.not_eq_true'] at h
    exact h.2
theorem dstL_ok {n : Nat} {fr : Fr} (hn : n ≤ fr.n) {o : Oper} (h : dstL n o = true) {tm : Tm} {hp : Hp} {nx : Nat} : dstOK o (absS fr tm hp nx) := by
  unfold dstL at h
  intro t ht
  rw [ht] at h
  exact Nat.lt_of_lt_of_le (Nat.le_of_ble_eq_true h) hn

theorem getElem?_lt {α : Type} {a : Array α} {i : Nat} {x : α} (h : a[i]? = some x) : i < a.size := by
  rcases Nat.lt_or_ge i a.size with g | g
  · exact g
  · rw [Array.getElem?_eq_none g] at h; cases h

/-- Whoever is listed is an operation of the region. -/
def HsIn (ops : Array Oper) (hs : HsT) : Prop := ∀ x ∈ hs, x.1 < ops.size

theorem HsIn.more {ops : Array Oper} {hs : HsT} (h : HsIn ops hs) {i : Nat} (hi : i < ops.size) (es : List PC) : HsIn ops (es.map (fun e => (i, e)) ++ hs) := by
  intro x hx
  rcases List.mem_append.mp hx with g | g
  · obtain ⟨j, _, rfl⟩ := List.mem_map.mp g
    exact hi
  · exact h x g

/-- What is said by the list. -/
def hsem (hs : HsT) : List (Nat × CellP) := hs.map fun x => (x.1, x.2.has)

theorem mem_hsem {hs : HsT} {s : Nat} {Q : CellP} : (s, Q) ∈ hsem hs ↔ ∃ e, (s, e) ∈ hs ∧ e.has = Q := by
  unfold hsem
  rw [List.mem_map]
  constructor
  · rintro ⟨⟨s', e⟩, h1, h2⟩
    cases h2
    exact ⟨e, h1, rfl⟩
  · rintro ⟨e, h1, rfl⟩
    exact ⟨(s, e), h1, rfl⟩

theorem keepB_ok {ops : Array Oper} {u : Nat} {keep : List Nat} (h : keepB ops u keep = true) {hs hs' : HsT} (hin : HsIn ops hs) (hx : ∀ x ∈ hs, x ∈ hs' ∨ x.1 ∉ keep) : ∀ s Q, (s, Q) ∈ hsem hs → (s, Q) ∈ hsem hs' ∨ Dep ops u s := by
  intro s Q hsj
  obtain ⟨e, h1, h2⟩ := mem_hsem.mp hsj
  rcases hx _ h1 with g | g
  · exact .inl (mem_hsem.mpr ⟨e, g, h2⟩)
  · right
    unfold keepB at h
    rw [List.all_eq_true] at h
    have := h s (List.mem_range.mpr (hin _ h1))
    simp only [Bool.or_eq_true] at this
    rcases this with e | e
    · exact absurd (memN_iff.mp e) g
    · exact depB_ok e

theorem cs_ok {hs hs' : HsT} {cs : List PC} (h : ∀ x ∈ hs', x.2 ∈ cs ∧ x ∈ hs) : ∀ s Q, (s, Q) ∈ hsem hs' → ∀ k r c, Q k r c → inL cs k r c := by
  intro s Q hs k r c hq
  obtain ⟨e, h1, rfl⟩ := mem_hsem.mp hs
  exact ⟨e, (h _ h1).1, hq⟩

theorem si_more {ops : Array Oper} {loud : Nat → Bool} {D : Nat → Prop} {T : Tab} {objs : Objs} {w : World} {hs : HsT} {i : Nat} {es : List PC} {L : Array Bool} {w' : World} (h : SI ops loud D T objs w (hsem (es.map (fun e => (i, e)) ++ hs)) L w') :
    SI ops loud D T objs w ((i, inL es) :: hsem hs) L w' := by
  obtain ⟨h1, h2, h3⟩ := h
  refine ⟨h1, h2, fun s Q hsQ hd => ?_⟩
  rcases List.mem_cons.mp hsQ with g | g
  · cases g
    rintro k r c p ⟨e, he, hx⟩ hne hT hlt
    exact h3 i e.has (mem_hsem.mpr ⟨e, List.mem_append_left _ (List.mem_map.mpr ⟨e, he, rfl⟩), rfl⟩) hd k r c p hx hne hT hlt
  · obtain ⟨e, g1, g2⟩ := mem_hsem.mp g
    exact h3 s Q (mem_hsem.mpr ⟨e, List.mem_append_right _ g1, g2⟩) hd

theorem QA.more {ops : Array Oper} {loud : Nat → Bool} {K : Ex → St → Prop} {f : Nat} {L : Array Bool} {hs : HsT} {i : Nat} {es : List PC} {σ : St} (h : QA ρ P ops loud K f L (hsem (es.map (fun e => (i, e)) ++ hs)) σ) : QA ρ P ops loud K f L ((i, inL es) :: hsem hs) σ :=
  fun X T a w hh => wpAnyS_weak (fun _ _ => si_more) _ _ _ _ (h X T a w hh)

theorem QAP.more {ops : Array Oper} {loud : Nat → Bool} {K : Ex → St → Prop} {B : Nat → Born} {G : List Nat} {f : Nat} {L : Array Bool} {hs : HsT} {i : Nat} {es : List PC} {σ : St} (h : QAP ρ P ops loud K B G f L (hsem (es.map (fun e => (i, e)) ++ hs)) σ) : QAP ρ P ops loud K B G f L ((i, inL es) :: hsem hs) σ :=
  fun E bs X T a w hh hA => wpAnyS_weak (fun _ _ => si_more) _ _ _ _ (h E bs X T a w hh hA)

/-- A step of a plan; or objects of noughts are made (those of gs), and meanwhile other steps are taken. -/
inductive Plan where
  | s (x : Step)
  | g (gs : List Nat) (inner : List Step)

end Go.Proofs.YtibmbbogjkecoaaDoor.M

/- Regions whose order is drawn, as the kernel runs them. -/
namespace Go.Proofs.YtibmbbogjkecoaaDoor.M
open Go Go.RowKit
set_option linter.unusedSimpArgs false
set_option linter.unusedVariables false

variable {ρ : Nat → Value} {P : Program}

/-! ### Objects of noughts -/

/-- What an operation makes that makes an object of noughts: the slot, whence its size, the object by its size, the value by size and number. -/
structure GD where
  d : Nat
  sz : Option (Operand × Operand × Nat)
  mo : Nat → KOb
  v : Nat → Nat → V

noncomputable def gdOf (P : Program) (o : Oper) : Option GD := match o.dst, o.guard with
  | some d, none => match o.op with
    | .alloc t => match tiOf P t with
      | some ti => match (ti.zero.map cv).all V.one with
        | true => some ⟨d, none, fun _ => .cell (ti.zero.map cv), fun _ id => .ptr id 0 0⟩
        | false => none
      | none => none
    | .makeSlice t x y => match elOf P t with
      | some el => match el.z.all V.one with
        | true => some ⟨d, some (x, y, el.eb), fun n => .a1 el.es n (N16.all el.z), fun n id => .sl id 0 n true⟩
        | false => none
      | none => none
    | .buildSlice t m parts => match m, parts.toList, elOf P t with
      | 1, [(0, x)], some el => match Nat.beq el.es 1 with
        | true => some ⟨d, some (x, x, 0), fun n => .ls 1 [[.int .i64 (.ofNat n)]], fun _ id => .sl id 0 1 true⟩
        | false => none
      | _, _, _ => none
    | _ => none
  | _, _ => none

/-- Is its size n? -/
def SizeIs (gd : GD) (n : Nat) (σ : St) : Prop := match gd.sz with
  | none => n = 0
  | some (x, y, eb) => n ≤ 16 ∧ n ≤ 9223372036854775807 ∧ eb * n ≤ 281474976710656 ∧ ∃ k k', evalV σ x = .int k (.ofNat n) ∧ evalV σ y = .int k' (.ofNat n) ∧ (eb = 0 → k = .i64)

noncomputable def szK (gd : GD) (tm : Tm) (k : Nat → Ans) : Ans := match gd.sz with
  | none => k 0
  | some (x, y, eb) => (opd x).get tm fun v => (opd y).get tm fun u => v.onInt fun kd m => onNat m fun m => u.onInt fun _ n => onNat n fun n => must (Nat.ble 1 eb || Nat.beq (numK kd) 3) (must (Nat.beq m n) (must (Nat.ble n 16) (must (Nat.ble n 9223372036854775807) (must (Nat.ble (Nat.mul eb n) 281474976710656) (k n)))))
theorem szK_inv {gd : GD} {tm : Tm} {k : Nat → Ans} (h : szK gd tm k = .ok) (fr : Fr) (hp : Hp) (nx : Nat) : ∃ n, SizeIs gd n (absS fr tm hp nx) ∧ k n = .ok := by
  unfold szK at h
  unfold SizeIs
  split at h
  · exact ⟨0, rfl, h⟩
  · rename_i x y eb hz
    have h := opd_inv (k := fun u => _) (opd_inv (x := x) (k := fun v => (opd y).get tm _) h fr hp nx) fr hp nx
    obtain ⟨k1, m', hx, h⟩ := V.onInt_inv h
    obtain ⟨m, hm, h⟩ := onNat_inv h
    obtain ⟨k2, n', hy, h⟩ := V.onInt_inv h
    obtain ⟨n, hn, h⟩ := onNat_inv h
    obtain ⟨h0, h⟩ := must_inv h
    obtain ⟨h1, h⟩ := must_inv h
    obtain ⟨h2, h⟩ := must_inv h
    obtain ⟨h3, h⟩ := must_inv h
    obtain ⟨h4, h9⟩ := must_inv h
    have h1 := Nat.eq_of_beq_eq_true h1
    subst hm hn h1
    refine ⟨m, ⟨Nat.le_of_ble_eq_true h2, Nat.le_of_ble_eq_true h3, Nat.le_of_ble_eq_true h4, k1, k2, hx, hy, fun e => ?_⟩, h9⟩
    rw [Bool.or_eq_true] at h0
    rcases h0 with g | g
    · have := Nat.le_of_ble_eq_true g
      omega
    · exact numK_inj (k' := .i64) g

/-- What is known of an object that is made ahead. -/
structure Good (ρ : Nat → Value) (P : Program) (o : Oper) (gd : GD) (n : Nat) (B : Born) : Prop where
  d : B.d = gd.d
  ob : absK (gd.mo n) = some B.ob
  v : B.v = gd.v n
  rep : BornRep ρ B
  ok : ∀ σ, SizeIs gd n σ → BornOK ρ P σ o B

theorem good_of {o : Oper} {gd : GD} (h : gdOf P o = some gd) {n : Nat} {σ : St} (hsz : SizeIs gd n σ) : o.dst = some gd.d ∧ o.guard = none ∧ ∃ B, Good ρ P o gd n B := by
  unfold gdOf at h
  split at h
  · rename_i d hd hg
    split at h
    · rename_i t ho
      split at h
      · rename_i ti hti
        split at h
        · rename_i hone
          cases h
          refine ⟨hd, hg, ?_⟩
          have ht := tiOf_ok hti
          obtain ⟨z, hz1, hz2⟩ := ht.zeroValue
          refine ⟨⟨d, fun b => .pointer (some ⟨b, 0, none⟩), z.cells, t, boxOb (ti.zero.map cv), fun id => .ptr id 0 0⟩, rfl, rfl, rfl, ⟨rfl, fun r row hr => ?_, fun w L T k b hT _ => ?_⟩, fun σ _ X T a w hh w' => by simp [execOp, ho, Instr.alloc, newVar, newRow, more, hz2]⟩
          · cases r with
            | succ r => cases hr
            | zero =>
              simp only [boxOb, Option.some.injEq] at hr
              subst hr
              refine ⟨rfl, fun p hp => List.all_eq_true.mp hone p hp, fun c p hp => ?_⟩
              rw [List.getElem?_map, ← hz1] at hp
              simp only [Option.map_eq_some_iff] at hp
              obtain ⟨v, hv, rfl⟩ := hp
              exact ⟨v, by simpa using hv, fun w L T => rep_cv _ _ _ v⟩
          · have := Rep.ptr (ρ := ρ) (w := w) (L := L) (T := T) k 0 0 _ hT
            simpa using this
        · cases h
      · cases h
    · rename_i t x y ho
      split at h
      · rename_i el hel
        split at h
        · rename_i hone
          cases h
          refine ⟨hd, hg, ?_⟩
          obtain ⟨h1, h2, _, te, hte, hz⟩ := elOf_ok hel
          obtain ⟨hu, i, z, hi, g1, g2, hz', hzs⟩ := h1
          obtain ⟨s1, s2, s3, _⟩ := hsz
          have hzz : z.cells.toList.map cv = el.z := by
            have := hte.zero
            rw [hi, Option.map_some, hz'] at this
            have : z.cells.toList = te.zero := by simpa using this
            rw [this, hz]
          refine ⟨⟨d, fun b => .slice (some ⟨b, 0, none⟩) n n, (Array.range (n * el.es)).map (fun j => z.cells[j % z.cells.size]!), el.e, zeroOb el.es n el.z, fun id => .sl id 0 n true⟩, rfl, ?_, rfl, ⟨rfl, fun r row hr => ?_, fun w L T k b hT hb => ?_⟩, fun σ hs X T a w hh w' => ?_⟩
          · show some (⟨el.es, fun r => if r < n then (if r < 16 then some ((N16.all el.z).get r) else none) else none, false⟩ : Ob) = some ⟨el.es, fun r => if r < n then some el.z else none, false⟩
            congr 2
            funext r
            by_cases e : r < n
            · rw [if_pos e, if_pos e, if_pos (by omega), N16.get_all]
            · rw [if_neg e, if_neg e]
          · rw [← hzz] at hone
            have hr' : (zeroOb el.es n (z.cells.toList.map cv)).row r = some row := by rw [hzz]; exact hr
            have hw : ∀ (w : World) (L : Nat → Prop) (T : Tab), _ := fun w L T => zero_cells (ρ := ρ) (w := w) (L := L) (T := T) z.cells el.es n n hzs h2 (Nat.le_refl _) hone r row hr'
            obtain ⟨k1, k2, _⟩ := hw default (fun _ => False) (fun _ => none)
            refine ⟨k1, k2, fun c q hq => ?_⟩
            obtain ⟨v, k3, _⟩ := (hw default (fun _ => False) (fun _ => none)).2.2 c q hq
            refine ⟨v, k3, fun w L T => ?_⟩
            obtain ⟨v', k4, k5⟩ := (hw w L T).2.2 c q hq
            rw [k3] at k4
            cases k4
            exact k5
          · exact .sl k 0 n true ⟨b, 0, el.es⟩ 0 n hT (.inr (by simp)) (Nat.le_refl _) (fun _ => rfl) ⟨_, _, _, hb, by simp⟩
          · obtain ⟨_, q1, q2, k, k', hx, hy, _⟩ := hs
            have e1 := rep_int (ev_rep hh hx)
            have e2 := rep_int (ev_rep hh hy)
            have := run_make (P := P) (eb := el.eb) (es := el.es) ho hu hi hz' q1 (by rw [g2]; exact q2) a w' e1 e2 (by rw [g1]; exact h2) (by rw [g1]; exact hzs)
            rw [g1] at this
            exact this
        · cases h
      · cases h
    · rename_i t m parts ho
      split at h
      · rename_i x el hp hel
        split at h
        · rename_i hes
          cases h
          refine ⟨hd, hg, ?_⟩
          have hes := Nat.eq_of_beq_eq_true hes
          obtain ⟨h1, h2, _, te, hte, hz⟩ := elOf_ok hel
          obtain ⟨hu, i, z, hi, g1, g2, hz', hzs⟩ := h1
          obtain ⟨s1, s2, s3, k, k', hx, hy, hk⟩ := hsz
          have hk := hk rfl
          subst hk
          have hsz1 : i.size = 1 := by omega
          have hzc : z.cells.size = 1 := by omega
          refine ⟨⟨d, fun b => .slice (some ⟨b, 0, none⟩) 1 1, #[.int .i64 (.ofNat n)], el.e, rowsOb 1 [[.int .i64 (.ofNat n)]], fun id => .sl id 0 1 true⟩, rfl, rfl, rfl, ⟨rfl, fun r row hr => ?_, fun w L T k b hT hb => ?_⟩, fun σ hs X T a w hh w' => ?_⟩
          · have hr : ([[V.int .i64 (.ofNat n)]] : List (List V))[r]? = some row := hr
            cases r with
            | succ r => simp at hr
            | zero =>
              simp at hr
              subst hr
              refine ⟨rfl, fun q hq => by simp at hq; subst hq; rfl, fun c q hq => ?_⟩
              cases c with
              | succ c => simp at hq
              | zero =>
                simp at hq
                subst hq
                exact ⟨.int .i64 (.ofNat n), by simp, fun w L T => .pure (.int _ _)⟩
          · exact .sl k 0 1 true ⟨b, 0, 1⟩ 0 1 hT (.inr (by simp)) (Nat.le_refl _) (fun _ => rfl) ⟨_, _, _, hb, by simp⟩
          · obtain ⟨_, _, _, k, k', hx', _, hk'⟩ := hs
            have hk' := hk' rfl
            subst hk'
            have e1 := rep_int (ev_rep hh hx')
            have hpa : parts = #[(0, x)] := by rw [arr_of hp]
            subst hpa
            simp only [execOp, ho, List.map_toArray, List.map_cons, List.map_nil, e1, Instr.buildSlice, Sem.run_bind, Result.andThen, run_underlying hu, Go.sizeOf, typeInfo, run_program, hi, Sem.run_pure, Sem.run_ite, hsz1, Go.zeroValue, hz']
            have hce : (Value.int .i64 (n : Int)).cells = #[Value.int .i64 (n : Int)] := rfl
            simp [Instr.fill, hce, hzc, hsz1, hz', newRow, more]
            have hA : ((Array.map (fun x => z.cells[x % 1]!) (Array.range 1)).setIfInBounds 0 (Value.int IntKind.i64 (n : Int))) = #[Value.int IntKind.i64 (n : Int)] := by
              apply Array.ext
              · simp
              · intro j h1 h2
                have : j = 0 := by simpa using h2
                subst this
                simp
            rw [hA]
        · cases h
      · cases h
    · cases h
  · cases h

/-! ### A group -/

noncomputable def sizesK (gds : List GD) (tm : Tm) : (List Nat → Ans) → Ans :=
  List.rec (motive := fun _ => (List Nat → Ans) → Ans) (fun k => k []) (fun gd _ ih k => szK gd tm fun n => ih fun l => k (n :: l)) gds
noncomputable def unsetK (gds : List GD) : Tm → (Tm → Ans) → Ans :=
  List.rec (motive := fun _ => Tm → (Tm → Ans) → Ans) (fun tm k => k tm) (fun gd _ ih tm k => (updD (some gd.d)).run tm .un fun tm' => ih tm' k) gds
noncomputable def chkK (gds : List GD) (tm : Tm) : List Nat → Ans → Ans :=
  List.rec (motive := fun _ => List Nat → Ans → Ans) (fun ns y => List.rec (motive := fun _ => AnsT) y (fun _ _ _ => .err 150) ns) (fun gd _ ih ns y => List.rec (motive := fun _ => AnsT) (.err 151) (fun n r _ => (opd (.tmp gd.d)).get tm fun v => v.onUn (szK gd tm fun m => must (Nat.beq m n) (ih r y))) ns) gds
noncomputable def adoptK (gds : List GD) : List Nat → Tm → Hp → Nat → K3 → Ans :=
  List.rec (motive := fun _ => List Nat → Tm → Hp → Nat → K3 → Ans) (fun ns tm hp nx k => k tm hp nx) (fun gd _ ih ns tm hp nx k => List.rec (motive := fun _ => AnsT) (.err 152) (fun n r _ => newK (some gd.d) (gd.mo n) (gd.v n nx) tm hp nx fun tm hp nx => ih r tm hp nx k) ns) gds

/-- All that is known of a group. -/
def Fits (ρ : Nat → Value) (P : Program) (ops : Array Oper) (B : Nat → Born) : List Nat → List GD → List Nat → Prop
  | [], [], [] => True
  | g :: gs, gd :: gds, n :: ns => (∃ o, ops[g]? = some o ∧ o.dst = some gd.d ∧ o.guard = none ∧ Good ρ P o gd n (B g)) ∧ Fits ρ P ops B gs gds ns
  | _, _, _ => False

noncomputable def gdsOf (P : Program) (ops : Array Oper) : List Nat → Option (List GD)
  | [] => some []
  | g :: gs => match ops[g]? with
    | some o => match gdOf P o, gdsOf P ops gs with
      | some gd, some gds => some (gd :: gds)
      | _, _ => none
    | none => none

theorem Fits.congr {ops : Array Oper} {B B' : Nat → Born} : ∀ {gs : List Nat} {gds : List GD} {ns : List Nat}, (∀ g ∈ gs, B g = B' g) → Fits ρ P ops B gs gds ns → Fits ρ P ops B' gs gds ns
  | [], [], [], _, h => h
  | g :: gs, gd :: gds, n :: ns, he, ⟨h1, h2⟩ => ⟨by rw [← he g List.mem_cons_self]; exact h1, h2.congr fun x hx => he x (List.mem_cons_of_mem _ hx)⟩

theorem sizesK_inv {ops : Array Oper} (fr : Fr) {tm : Tm} (hp : Hp) (nx : Nat) : ∀ {gs : List Nat} {gds : List GD} {k : List Nat → Ans}, gs.Nodup → gdsOf P ops gs = some gds → sizesK gds tm k = .ok → ∃ ns B, k ns = .ok ∧ Fits ρ P ops B gs gds ns
  | [], gds, k, _, hg, h => by
    cases hg
    exact ⟨[], fun _ => ⟨0, fun _ => undef, #[], 0, default, fun _ => .un⟩, h, trivial⟩
  | g :: gs, gds, k, hnd, hg, h => by
    unfold gdsOf at hg
    split at hg
    · rename_i o ho
      split at hg
      · rename_i gd gds' h1 h2
        cases hg
        obtain ⟨n, hn, h⟩ := szK_inv (k := fun n => sizesK gds' tm fun l => k (n :: l)) h fr hp nx
        have hnd' := List.nodup_cons.mp hnd
        obtain ⟨ns, B, h, hF⟩ := sizesK_inv fr hp nx (k := fun l => k (n :: l)) hnd'.2 h2 h
        obtain ⟨e1, e2, Bg, hB⟩ := good_of (ρ := ρ) h1 hn
        refine ⟨n :: ns, fun x => if x = g then Bg else B x, h, ⟨o, ho, e1, e2, by show Good ρ P o gd n (if g = g then Bg else B g); rw [if_pos rfl]; exact hB⟩, hF.congr fun x hx => ?_⟩
        show B x = if x = g then Bg else B x
        rw [if_neg]
        intro e
        subst e
        exact hnd'.1 hx
      · cases hg
    · cases hg

theorem unsetK_inv : ∀ {gds : List GD} {tm : Tm} {k : Tm → Ans}, unsetK gds tm k = .ok → ∃ tm', k tm' = .ok ∧ absD tm' = absD tm ∧ ∀ t, absT tm' t = absT tm t ∨ absT tm' t = .un
  | [], tm, k, h => ⟨tm, h, rfl, fun t => .inl rfl⟩
  | gd :: gds, tm, k, h => by
    obtain ⟨tm1, h, h1⟩ := updD_inv h
    obtain ⟨tm', h, h2, h3⟩ := unsetK_inv (gds := gds) h
    have e := h1 ⟨0, [], []⟩ (N16.all (N16.all (N16.all (N16.all .no)))) 0
    have eT : absT tm1 = fun u => if u = gd.d then .un else absT tm u := (congrArg St.tmps e).symm
    have eD : absD tm1 = absD tm := (congrArg St.defs e).symm
    refine ⟨tm', h, h2.trans eD, fun t => ?_⟩
    rcases h3 t with g | g
    · by_cases e : t = gd.d
      · right
        rw [g, eT]
        simp [e]
      · left
        rw [g, eT]
        simp [e]
    · exact .inr g

theorem chkK_inv {ops : Array Oper} {B : Nat → Born} (fr : Fr) {tm : Tm} (hp : Hp) (nx : Nat) {y : Ans} : ∀ {gs : List Nat} {gds : List GD} {ns : List Nat}, Fits ρ P ops B gs gds ns → chkK gds tm ns y = .ok →
    y = .ok ∧ ∀ g ∈ gs, (absS fr tm hp nx).tmps (B g).d = .un ∧ ∀ o, ops[g]? = some o → BornOK ρ P (absS fr tm hp nx) o (B g)
  | [], [], [], _, h => ⟨h, by simp⟩
  | g :: gs, gd :: gds, n :: ns, ⟨⟨o, ho, h1, h2, hG⟩, hF⟩, h => by
    have h := opd_inv (x := .tmp gd.d) (k := fun v => v.onUn (szK gd tm fun m => must (Nat.beq m n) (chkK gds tm ns y))) h fr hp nx
    rcases V.onUn_inv h with ⟨hu, h⟩
    obtain ⟨m, hm, h⟩ := szK_inv h fr hp nx
    obtain ⟨e, h9⟩ := must_inv h
    have e := Nat.eq_of_beq_eq_true e
    subst e
    obtain ⟨hy, hall⟩ := chkK_inv fr hp nx hF h9
    refine ⟨hy, fun x hx => ?_⟩
    rcases List.mem_cons.mp hx with q | q
    · subst q
      refine ⟨by rw [hG.d]; exact hu, fun o' ho' => ?_⟩
      rw [ho] at ho'
      cases ho'
      exact hG.ok _ hm
    · exact hall x q

theorem adoptK_inv {ops : Array Oper} {B : Nat → Born} {fr : Fr} {k : K3} (gs : List Nat) : ∀ {gds : List GD} {ns : List Nat} {tm : Tm} {hp : Hp} {nx : Nat}, Fits ρ P ops B gs gds ns → adoptK gds ns tm hp nx k = .ok → NK fr k (adoptAll B (absS fr tm hp nx) gs) := by
  induction gs with
  | nil =>
    intro gds ns tm hp nx hF h
    cases gds with
    | nil => exact nk_of h
    | cons _ _ => exact hF.elim
  | cons g gs ih =>
    intro gds ns tm hp nx hF h
    cases gds with
    | nil => exact hF.elim
    | cons gd gds =>
      cases ns with
      | nil => exact hF.elim
      | cons n ns =>
        obtain ⟨⟨o, ho, h1, h2, hG⟩, hF⟩ := hF
        have h : newK (some gd.d) (gd.mo n) (gd.v n nx) tm hp nx (fun tm hp nx => adoptK gds ns tm hp nx k) = .ok := h
        obtain ⟨tm', hp', nx', e, h⟩ := newK_inv h fr
        have := ih (tm := tm') (hp := hp') (nx := nx') hF h
        rw [← e, hG.ob] at this
        unfold adoptAll
        rw [hG.d, hG.v]
        exact this

end Go.Proofs.YtibmbbogjkecoaaDoor.M

/- Plans of regions whose order is drawn: as the kernel follows them, what is to be checked of them. -/
namespace Go.Proofs.YtibmbbogjkecoaaDoor.M
open Go Go.RowKit
set_option linter.unusedSimpArgs false
set_option linter.unusedVariables false

variable {ρ : Nat → Value} {P : Program}

noncomputable def gchain (P : Program) (ops : Array Oper) (gds : List GD) (ns : List Nat) (next : Ch) (l : List Step) : Ch :=
  List.rec (motive := fun _ => Ch) next (fun s _ ih => match s with
    | .q i => stepD P ops (.q i) ih
    | .l u keep => ⟨fun E hs tm hp nx k => chkK gds tm ns ((stepD P ops (.l u keep) ih).run E hs tm hp nx k)⟩) l

noncomputable def stepP (P : Program) (ops : Array Oper) (p : Plan) (next : Ch) : Ch := match p with
  | .s x => stepD P ops x next
  | .g gs inner => match gdsOf P ops gs with
    | some gds => ⟨fun E hs tm hp nx k => sizesK gds tm fun ns => unsetK gds tm fun tm =>
        (gchain P ops gds ns ⟨fun E hs tm hp nx k => chkK gds tm ns (adoptK gds ns tm hp nx fun tm hp nx => next.run E hs tm hp nx k)⟩ inner).run E hs tm hp nx k⟩
    | none => ⟨fun _ _ _ _ _ _ => .err 153⟩

noncomputable def dchain (P : Program) (ops : Array Oper) (l : List Plan) : Ch :=
  List.rec (motive := fun _ => Ch) ⟨fun _ _ tm hp nx k => k tm hp nx⟩ (fun p _ ih => stepP P ops p ih) l

/-! ### What is to be checked -/

/-- A step that only looks. -/
def chkQ (ops : Array Oper) (loud : Nat → Bool) (n : Nat) (ks : List Nat) (L : Array Bool) (i : Nat) : Bool := match ops[i]? with
  | some o => dstN n ks o && !loud i && Region.free .any ops L i && (Region.ready .any ops L).contains i
  | none => false
/-- A step that does more, and must come now. -/
def chkL (ops : Array Oper) (loud : Nat → Bool) (n : Nat) (L : Array Bool) (u : Nat) (keep : List Nat) : Bool := match ops[u]? with
  | some o => dstL n o && loud u && (match Region.ready .any ops L with | [v] => Nat.beq v u | _ => false) && keepB ops u keep
  | none => false

def onlyB (ops : Array Oper) (L : Array Bool) (gs : List Nat) (u : Nat) : Bool := (List.range L.size).all fun j => L.getD j true || memN j gs || Nat.beq j u || (match ops[j]? with
  | some o => o.after.any fun e => Region.binds .any e && !memN e.on gs && !L.getD e.on false
  | none => false)
def lastB (ops : Array Oper) (L : Array Bool) (gs : List Nat) : Bool := (List.range L.size).all fun j => L.getD j true || memN j gs || (match ops[j]? with
  | some o => (o.after.any fun e => Region.binds .any e && !memN e.on gs && !L.getD e.on false) || (gs.all fun g => o.after.any fun e => Region.binds .any e && Nat.beq e.on g && !L.getD g false)
  | none => false)

def chkI (ops : Array Oper) (loud : Nat → Bool) (n : Nat) (ks : List Nat) (gs : List Nat) : Nat → Array Bool → List Step → Option (Nat × Array Bool)
  | f, L, [] => some (f, L)
  | 0, _, _ :: _ => none
  | f + 1, L, .q i :: r => match chkQ ops loud n ks L i && !memN i gs with
    | true => chkI ops loud n ks gs f (L.setIfInBounds i true) r
    | false => none
  | f + 1, L, .l u keep :: r => match ops[u]? with
    | some o => match dstL n o && loud u && (Region.ready .any ops L).contains u && onlyB ops L gs u && keepB ops u keep with
      | true => chkI ops loud n ks gs f (L.setIfInBounds u true) r
      | false => none
    | none => none

def noDup : List Nat → Bool
  | [] => true
  | g :: gs => !memN g gs && noDup gs

def chkM (ops : Array Oper) (loud : Nat → Bool) (n : Nat) (g : Nat) : Bool := match ops[g]? with
  | some o => match o.dst, o.guard with
    | some d, none => Nat.ble (Nat.succ d) n && Nat.ble (Nat.succ d) 255 && !loud g && (List.range ops.size).all fun j => Nat.beq j g || (match ops[j]? with | some o' => (match o'.dst with | some t => !Nat.beq t d | none => true) | none => true)
    | _, _ => false
  | none => false

def isLoudS : List Step → Nat → Bool
  | [], _ => false
  | .q _ :: r, i => isLoudS r i
  | .l u _ :: r, i => Nat.beq i u || isLoudS r i
def isLoud : List Plan → Nat → Bool
  | [], _ => false
  | .s x :: r, i => isLoudS [x] i || isLoud r i
  | .g _ inner :: r, i => isLoudS inner i || isLoud r i

/-- Is the plan one that may be followed? -/
def chk (ops : Array Oper) (loud : Nat → Bool) (n : Nat) (ks : List Nat) : Nat → Array Bool → List Plan → Bool
  | _, L, [] => (Region.ready .any ops L).isEmpty
  | 0, _, _ :: _ => false
  | f + 1, L, .s (.q i) :: r => chkQ ops loud n ks L i && chk ops loud n ks f (L.setIfInBounds i true) r
  | f + 1, L, .s (.l u keep) :: r => chkL ops loud n L u keep && chk ops loud n ks f (L.setIfInBounds u true) r
  | f + 1, L, .g gs inner :: r => noDup gs && gs.all (chkM ops loud n) && Nat.ble gs.length (f + 1) && (match chkI ops loud n ks gs (f + 1 - gs.length) L inner with
    | some (f', L') => lastB ops L' gs && gs.all (fun g => (Region.ready .any ops L').contains g) && chk ops loud n ks f' (listE L' gs) r
    | none => false)

/-! ### It holds what it promises -/

theorem noDup_ok : ∀ {gs : List Nat}, noDup gs = true → gs.Nodup
  | [], _ => List.nodup_nil
  | g :: gs, h => by
    simp only [noDup, Bool.and_eq_true, Bool.not_eq_true'] at h
    refine List.nodup_cons.mpr ⟨fun hg => ?_, noDup_ok h.2⟩
    rw [memN_iff.mpr hg] at h
    cases h.1

theorem any_edge {a : Array Edge} {p : Edge → Bool} (h : a.any p = true) : ∃ e ∈ a, p e = true := by
  rw [Array.any_eq_true] at h
  obtain ⟨m, hm, h⟩ := h
  exact ⟨a[m], Array.getElem_mem hm, h⟩

theorem getD_true_lt {L : Array Bool} {j : Nat} (h : L.getD j true = false) : j < L.size := by
  rcases Nat.lt_or_ge j L.size with g | g
  · exact g
  · simp [Array.getElem?_eq_none g] at h

theorem not_memN {i : Nat} {l : List Nat} (h : memN i l = false) : i ∉ l := fun g => by rw [memN_iff.mpr g] at h; cases h

theorem onlyB_ok {ops : Array Oper} {L : Array Bool} {gs : List Nat} {u : Nat} (h : onlyB ops L gs u = true) : Only ops L gs (fun j => Nat.beq j u) := by
  intro j hj hg hu
  have hu : Nat.beq j u = false := hu
  unfold onlyB at h
  rw [List.all_eq_true] at h
  have := h j (List.mem_range.mpr (getD_true_lt hj))
  have hg' : memN j gs = false := by
    cases e : memN j gs with
    | false => rfl
    | true => exact (hg (memN_iff.mp e)).elim
  rw [hj, hg', hu] at this
  simp only [Bool.false_or] at this
  split at this
  · rename_i o ho
    obtain ⟨e, he, hp⟩ := any_edge this
    simp only [Bool.and_eq_true, Bool.not_eq_true'] at hp
    exact ⟨o, ho, e, he, hp.1.1, not_memN hp.1.2, hp.2⟩
  · cases this

theorem lastB_ok {ops : Array Oper} {L : Array Bool} {gs : List Nat} (h : lastB ops L gs = true) : Last ops L gs := by
  intro j hj hg
  unfold lastB at h
  rw [List.all_eq_true] at h
  have := h j (List.mem_range.mpr (getD_true_lt hj))
  have hg' : memN j gs = false := by
    cases e : memN j gs with
    | false => rfl
    | true => exact (hg (memN_iff.mp e)).elim
  rw [hj, hg'] at this
  simp only [Bool.false_or] at this
  split at this
  · rename_i o ho
    refine ⟨o, ho, ?_⟩
    rw [Bool.or_eq_true] at this
    rcases this with h1 | h1
    · obtain ⟨e, he, hp⟩ := any_edge h1
      simp only [Bool.and_eq_true, Bool.not_eq_true'] at hp
      exact .inl ⟨e, he, hp.1.1, not_memN hp.1.2, hp.2⟩
    · refine .inr fun g hg => ?_
      rw [List.all_eq_true] at h1
      obtain ⟨e, he, hp⟩ := any_edge (h1 g hg)
      simp only [Bool.and_eq_true, Bool.not_eq_true'] at hp
      exact ⟨e, he, hp.1.1, Nat.eq_of_beq_eq_true hp.1.2, hp.2⟩
  · cases this

theorem gok_ok {ops : Array Oper} {loud : Nat → Bool} {n : Nat} {B : Nat → Born} {gs : List Nat} {gds : List GD} {ns : List Nat} (h1 : noDup gs = true) (h2 : gs.all (chkM ops loud n) = true) (hF : Fits ρ P ops B gs gds ns) :
    GOK ops loud B gs ∧ ∀ g ∈ gs, (B g).d < n ∧ (B g).d < 255 := by
  have key : ∀ (gs : List Nat) (gds : List GD) (ns : List Nat), Fits ρ P ops B gs gds ns → ∀ g ∈ gs, ∃ o, ops[g]? = some o ∧ o.dst = some (B g).d ∧ o.guard = none := by
    intro gs
    induction gs with
    | nil => intro _ _ _ g hg; cases hg
    | cons x gs ih =>
      intro gds ns hF g hg
      cases gds with
      | nil => exact hF.elim
      | cons gd gds =>
        cases ns with
        | nil => exact hF.elim
        | cons m ns =>
          obtain ⟨⟨o, ho, q1, q2, hG⟩, hF⟩ := hF
          rcases List.mem_cons.mp hg with e | e
          · subst e
            exact ⟨o, ho, by rw [hG.d]; exact q1, q2⟩
          · exact ih gds ns hF g e
  rw [List.all_eq_true] at h2
  have full : ∀ g ∈ gs, ((B g).d < n ∧ (B g).d < 255) ∧ loud g = false ∧ ∀ (j : Nat) (o : Oper), ops[j]? = some o → j ≠ g → o.dst ≠ some (B g).d := by
    intro g hg
    obtain ⟨o, ho, hd, hgu⟩ := key gs gds ns hF g hg
    have h3 := h2 g hg
    unfold chkM at h3
    rw [ho] at h3
    simp only [hd, hgu, Bool.and_eq_true, Bool.not_eq_true'] at h3
    obtain ⟨⟨⟨q1, q2⟩, q3⟩, q4⟩ := h3
    refine ⟨⟨Nat.le_of_ble_eq_true q1, Nat.le_of_ble_eq_true q2⟩, q3, fun j o' ho' hj hd' => ?_⟩
    rw [List.all_eq_true] at q4
    have := q4 j (List.mem_range.mpr (getElem?_lt ho'))
    have hb : Nat.beq j g = false := by
      cases e : Nat.beq j g with
      | false => rfl
      | true => exact (hj (Nat.eq_of_beq_eq_true e)).elim
    rw [hb, ho'] at this
    simp only [Bool.false_or, hd', Nat.beq_refl] at this
    cases this
  exact ⟨⟨noDup_ok h1, key gs gds ns hF, fun g hg => (full g hg).2.1, fun j o g hj hg hne => (full g hg).2.2 j o hj hne⟩, fun g hg => (full g hg).1⟩

section
variable {ops : Array Oper} {loud : Nat → Bool} {fr : Fr} {n : Nat} {E : Env} {k : K3}

theorem chkQ_ok {L : Array Bool} {i : Nat} (hn : n ≤ fr.n) (h : chkQ ops loud n fr.ks L i = true) {tm : Tm} {hp : Hp} {nx : Nat} : ∃ o, ops[i]? = some o ∧ dstOK o (absS fr tm hp nx) ∧ (∀ t, o.dst = some t → (absS fr tm hp nx).ks t = false) ∧ loud i = false ∧ Region.free .any ops L i = true ∧ i ∈ Region.ready .any ops L := by
  unfold chkQ at h
  split at h
  · rename_i o ho
    simp only [Bool.and_eq_true, Bool.not_eq_true'] at h
    obtain ⟨⟨⟨h1, h2⟩, h3⟩, h4⟩ := h
    obtain ⟨h5, h6⟩ := dstN_ok hn h1 (tm := tm) (hp := hp) (nx := nx)
    exact ⟨o, ho, h5, h6, h2, h3, by simpa using h4⟩
  · cases h

theorem gchain_sound (hns : Region.noSelect ops = true) (hn : n ≤ fr.n) (hf : E.forb = fr.forb) (hc : CallOK ρ P E.call) {gs : List Nat} {gds : List GD} {ns : List Nat} {B : Nat → Born} (hF : Fits ρ P ops B gs gds ns) (hG : GOK ops loud B gs) (hlt : ∀ g ∈ gs, (B g).d < n ∧ (B g).d < 255)
    {next : Ch} {f' : Nat} {L' : Array Bool} (hlast : Last ops L' gs) (hready : ∀ g ∈ gs, g ∈ Region.ready .any ops L')
    (hnext : ∀ (hs : HsT) (tm : Tm) (hp : Hp) (nx : Nat), HsIn ops hs → next.run E hs tm hp nx k = .ok → QA ρ P ops loud (KE fr E k) f' (listE L' gs) (hsem hs) (absS fr tm hp nx)) :
    ∀ (l : List Step) (f : Nat) (L : Array Bool) (hs : HsT) (tm : Tm) (hp : Hp) (nx : Nat), chkI ops loud n fr.ks gs f L l = some (f', L') → HsIn ops hs →
      (gchain P ops gds ns ⟨fun E hs tm hp nx k => chkK gds tm ns (adoptK gds ns tm hp nx fun tm hp nx => next.run E hs tm hp nx k)⟩ l).run E hs tm hp nx k = .ok → QAP ρ P ops loud (KE fr E k) B gs f L (hsem hs) (absS fr tm hp nx) := by
  have hR : ∀ (gs : List Nat) (gds : List GD) (ns : List Nat), Fits ρ P ops B gs gds ns → ∀ g ∈ gs, BornRep ρ (B g) := by
    intro gs
    induction gs with
    | nil => intro _ _ _ g hg; cases hg
    | cons x gs ih =>
      intro gds ns hF g hg
      cases gds with
      | nil => exact hF.elim
      | cons gd gds =>
        cases ns with
        | nil => exact hF.elim
        | cons m ns =>
          obtain ⟨⟨o, ho, q1, q2, hG⟩, hF⟩ := hF
          rcases List.mem_cons.mp hg with e | e
          · subst e; exact hG.rep
          · exact ih gds ns hF g e
  intro l
  induction l with
  | nil =>
    intro f L hs tm hp nx hk hin h
    have hk : some (f, L) = some (f', L') := by
      cases f <;> exact hk
    cases hk
    have h : chkK gds tm ns (adoptK gds ns tm hp nx fun tm hp nx => next.run E hs tm hp nx k) = .ok := h
    obtain ⟨h, hall⟩ := chkK_inv fr hp nx hF h
    have := adoptK_inv (fr := fr) gs hF h
    obtain ⟨tm', hp', nx', e, h⟩ := this
    refine qap_finish hG hlast hready (fun g hg => (hall g hg).1) (fun g hg => (hall g hg).2) (hR gs gds ns hF) (fun g hg => Nat.lt_of_lt_of_le (hlt g hg).1 hn) ?_
    rw [e]
    exact hnext hs tm' hp' nx' hin h
  | cons s l ih =>
    intro f L hs tm hp nx hk hin h
    cases f with
    | zero => cases hk
    | succ f =>
      cases s with
      | q i =>
        unfold chkI at hk
        split at hk
        · rename_i hq
          rw [Bool.and_eq_true, Bool.not_eq_true'] at hq
          obtain ⟨hq, hiG⟩ := hq
          obtain ⟨o, ho, h1, h2, h3, h4, h5⟩ := chkQ_ok (fr := fr) (tm := tm) (hp := hp) (nx := nx) hn hq
          obtain ⟨v, ids, tm', hv, e, h⟩ := stepD_q (ρ := ρ) ho h fr
          refine qap_take hG ho hns h3 (not_memN hiG) h4 h5 hv h1 h2 (QAP.more ?_)
          rw [e]
          exact ih f _ _ _ _ _ hk (hin.more (getElem?_lt ho) ids) h
        · cases hk
      | l u keep =>
        unfold chkI at hk
        split at hk
        · rename_i o ho
          split at hk
          · rename_i hq
            simp only [Bool.and_eq_true] at hq
            obtain ⟨⟨⟨⟨q1, q2⟩, q3⟩, q4⟩, q5⟩ := hq
            have h : chkK gds tm ns ((stepD P ops (.l u keep) (gchain P ops gds ns ⟨fun E hs tm hp nx k => chkK gds tm ns (adoptK gds ns tm hp nx fun tm hp nx => next.run E hs tm hp nx k)⟩ l)).run E hs tm hp nx k) = .ok := h
            obtain ⟨h, hall⟩ := chkK_inv fr hp nx hF h
            obtain ⟨hs', cs, h6, h7, hb⟩ := stepD_l (ρ := ρ) ho h hf hc (dstL_ok hn q1)
            refine qap_loud (C := inL cs) hG (by simpa using q3) (onlyB_ok q4) q2 (keepB_ok q5 hin h6) (cs_ok h7) (fun g hg => (hall g hg).1) (fun g hg => (hall g hg).2) (fun g hg => Nat.lt_of_lt_of_le (hlt g hg).1 hn) (hb.mono ?_)
            rintro σ ⟨tm', hp', nx', rfl, h⟩
            exact ih f _ _ _ _ _ hk (fun x hx => hin x (h7 x hx).2) h
          · cases hk
        · cases hk

theorem QA.less {K : Ex → St → Prop} {f : Nat} {L : Array Bool} {hs : List (Nat × CellP)} {σ : St} {g : Nat → V} (h : QA ρ P ops loud K f L hs { σ with tmps := g }) (hg : ∀ t, g t = σ.tmps t ∨ g t = .un) : QA ρ P ops loud K f L hs σ :=
  fun X T a w hh => h X T a w (hh.less g hg)

theorem closed_chkI {gs : List Nat} : ∀ {l : List Step} {f f' : Nat} {L L' : Array Bool} {ks : List Nat}, chkI ops loud n ks gs f L l = some (f', L') → Closed ops L → Closed ops L'
  | [], f, f', L, L', ks, h, hc => by
    have h : some (f, L) = some (f', L') := by cases f <;> exact h
    cases h
    exact hc
  | _ :: _, 0, _, _, _, _, h, _ => by cases h
  | .q i :: l, f + 1, f', L, L', ks, h, hc => by
    unfold chkI at h
    split at h
    · rename_i hq
      rw [Bool.and_eq_true] at hq
      have := hq.1
      unfold chkQ at this
      split at this
      · simp only [Bool.and_eq_true] at this
        exact closed_chkI h (hc.set (by simpa using this.2))
      · cases this
    · cases h
  | .l u keep :: l, f + 1, f', L, L', ks, h, hc => by
    unfold chkI at h
    split at h
    · split at h
      · rename_i hq
        simp only [Bool.and_eq_true] at hq
        exact closed_chkI h (hc.set (by simpa using hq.1.1.2))
      · cases h
    · cases h

theorem closed_listE {L : Array Bool} (hc : Closed ops L) : ∀ {gs : List Nat}, gs.Nodup → (∀ g ∈ gs, g ∈ Region.ready .any ops L) → Closed ops (listE L gs)
  | [], _, _ => hc
  | g :: gs, hnd, hr => by
    have hnd := List.nodup_cons.mp hnd
    exact (closed_listE hc hnd.2 fun x hx => hr x (List.mem_cons_of_mem _ hx)).set (ready_listE (hr g List.mem_cons_self) hnd.1)

theorem dchain_sound (hns : Region.noSelect ops = true) (hn : n ≤ fr.n) (hf : E.forb = fr.forb) (hc : CallOK ρ P E.call) :
    ∀ (l : List Plan) (f : Nat) (L : Array Bool) (hs : HsT) (tm : Tm) (hp : Hp) (nx : Nat), chk ops loud n fr.ks f L l = true → Closed ops L → HsIn ops hs → (dchain P ops l).run E hs tm hp nx k = .ok → QA ρ P ops loud (KE fr E k) f L (hsem hs) (absS fr tm hp nx) := by
  intro l
  induction l with
  | nil =>
    intro f L hs tm hp nx hk hcl _ h
    refine qa_done ?_ (nk_of h)
    have hk : (Region.ready .any ops L).isEmpty = true := by
      cases f <;> exact hk
    exact List.isEmpty_iff.mp hk
  | cons p l ih =>
    intro f L hs tm hp nx hk hcl hin h
    cases f with
    | zero => cases hk
    | succ f =>
      cases p with
      | s x =>
        cases x with
        | q i =>
          have hk : (chkQ ops loud n fr.ks L i && chk ops loud n fr.ks f (L.setIfInBounds i true) l) = true := hk
          rw [Bool.and_eq_true] at hk
          obtain ⟨o, ho, h1, h2, h3, h4, h5⟩ := chkQ_ok (fr := fr) (tm := tm) (hp := hp) (nx := nx) hn hk.1
          obtain ⟨v, ids, tm', hv, e, h⟩ := stepD_q (ρ := ρ) ho h fr
          refine qa_take ho hns h3 h4 h5 hcl hv h1 h2 (QA.more ?_)
          rw [e]
          exact ih f _ _ _ _ _ hk.2 (hcl.set h5) (hin.more (getElem?_lt ho) ids) h
        | l u keep =>
          have hk : (chkL ops loud n L u keep && chk ops loud n fr.ks f (L.setIfInBounds u true) l) = true := hk
          rw [Bool.and_eq_true] at hk
          obtain ⟨hk1, hk2⟩ := hk
          unfold chkL at hk1
          split at hk1
          · rename_i o ho
            simp only [Bool.and_eq_true] at hk1
            obtain ⟨⟨⟨q1, q2⟩, q3⟩, q4⟩ := hk1
            have hr : Region.ready .any ops L = [u] := by
              split at q3
              · rename_i v hv
                rw [hv, Nat.eq_of_beq_eq_true q3]
              · cases q3
            obtain ⟨hs', cs, h6, h7, hb⟩ := stepD_l (ρ := ρ) ho h hf hc (dstL_ok hn q1)
            refine qa_loud (C := inL cs) hr q2 (keepB_ok q4 hin h6) (cs_ok h7) (hb.mono ?_)
            rintro σ ⟨tm', hp', nx', rfl, h⟩
            exact ih f _ _ _ _ _ hk2 (hcl.set (by rw [hr]; exact List.mem_singleton.mpr rfl)) (fun x hx => hin x (h7 x hx).2) h
          · cases hk1
      | g gs inner =>
        unfold chk at hk
        simp only [Bool.and_eq_true] at hk
        obtain ⟨⟨⟨k1, k2⟩, k3⟩, k4⟩ := hk
        split at k4
        · rename_i f' L' hI
          simp only [Bool.and_eq_true] at k4
          obtain ⟨⟨k5, k6⟩, k7⟩ := k4
          have hnd := noDup_ok k1
          have hr : ∀ g ∈ gs, g ∈ Region.ready .any ops L' := fun g hg => by
            rw [List.all_eq_true] at k6
            simpa using k6 g hg
          have h : (stepP P ops (.g gs inner) (dchain P ops l)).run E hs tm hp nx k = .ok := h
          unfold stepP at h
          simp only at h
          split at h
          · rename_i gds hgds
            obtain ⟨ns, B, h, hF⟩ := sizesK_inv (ρ := ρ) fr hp nx hnd hgds h
            obtain ⟨tm', h, e1, e2⟩ := unsetK_inv h
            obtain ⟨hG, hlt⟩ := gok_ok k1 k2 hF
            have hcl' := closed_chkI hI hcl
            have hq := gchain_sound hns hn hf hc hF hG hlt (lastB_ok k5) hr (next := dchain P ops l) (fun hs tm hp nx hin h => ih f' _ hs tm hp nx k7 (closed_listE hcl' hnd hr) hin h) inner _ L hs tm' hp nx hI hin h
            have hq := qap_enter hq hcl
            rw [show f + 1 - gs.length + gs.length = f + 1 by have := Nat.le_of_ble_eq_true k3; omega] at hq
            refine QA.less (g := absT tm') ?_ e2
            have e : ({ absS fr tm hp nx with tmps := absT tm' } : St) = absS fr tm' hp nx := by
              unfold absS
              rw [e1]
            rw [e]
            exact hq
          · exact Ans.no h
        · cases k4
end

end Go.Proofs.YtibmbbogjkecoaaDoor.M
