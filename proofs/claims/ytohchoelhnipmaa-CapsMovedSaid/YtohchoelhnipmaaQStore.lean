/- Operations that write objects. -/
import Derived.Test.YtohchoelhnipmaaQLoud
namespace Go.Proofs.Ytohchoelhnipmaa.Q
open Go Go.RowKit
set_option linter.unusedSimpArgs false
set_option linter.unusedVariables false

variable {P : Program} {σ : St} {K : Ex → St → Prop}

/-- May an object be written? -/
def may (σ : St) (k : Nat) : Bool := Nat.ble σ.m k || σ.mods.contains k

theorem may_spec {X : Ctx} {T : Tab} {a : Act} {w : World} (h : HoldsT X T σ a w) {k b s : Nat} (hk : may σ k = true) (hT : T[k]? = some (b, s)) : X.w0.heap.size ≤ b ∨ X.M b := by
  unfold may at hk
  simp only [Bool.or_eq_true] at hk
  rcases hk with hk | hk
  · exact h.fresh k b s (by rw [h.hm]; exact Nat.le_of_ble_eq_true hk) hT
  · rcases Nat.lt_or_ge k X.T0.length with g | g
    · obtain ⟨p, hp⟩ : ∃ p, X.T0[k]? = some p := ⟨_, List.getElem?_eq_getElem g⟩
      have := h.pre k p hp
      rw [hT] at this
      cases this
      exact .inr ⟨k, s, by rw [h.hmods]; simpa using hk, hp⟩
    · exact h.fresh k b s g hT

theorem setCell_same (w : World) (b off : Nat) (v : Value) {C : Array Value} {t : TypeId} {f : Nat × Nat} (h : w.heap[b]? = some (.cells C t f)) :
    (w.setCell ⟨b, off, none⟩ v).heap[b]? = some (.cells (C.setIfInBounds off v) t f) := by
  simp [World.setCell, Array.getElem?_modify, h]

theorem setCell_other (w : World) (b off : Nat) (v : Value) {b' : Nat} (h : b' ≠ b) : (w.setCell ⟨b, off, none⟩ v).heap[b']? = w.heap[b']? := by
  simp [World.setCell, Array.getElem?_modify, Ne.symm h]

theorem setCell_size (w : World) (b off : Nat) (v : Value) : (w.setCell ⟨b, off, none⟩ v).heap.size = w.heap.size := by simp [World.setCell]

theorem setCell_shape (w : World) (b off : Nat) (v : Value) (b' : Nat) (C : Array Value) (t : TypeId) (h : w.heap[b']? = some (.cells C t (0, 0))) :
    ∃ C' : Array Value, (w.setCell ⟨b, off, none⟩ v).heap[b']? = some (.cells C' t (0, 0)) ∧ C'.size = C.size := by
  by_cases e : b' = b
  · subst e; exact ⟨_, setCell_same w b' off v h, by simp⟩
  · exact ⟨C, by rw [setCell_other w b off v e]; exact h, rfl⟩

theorem flat_ne {s r c r' c' : Nat} (hc : c < s) (hc' : c' < s) (h : ¬ (r = r' ∧ c = c')) : r * s + c ≠ r' * s + c' := by
  intro e
  have h1 : (r * s + c) / s = r := by rw [Nat.mul_comm, Nat.mul_add_div (by omega), Nat.div_eq_of_lt hc]; rfl
  have h2 : (r' * s + c') / s = r' := by rw [Nat.mul_comm, Nat.mul_add_div (by omega), Nat.div_eq_of_lt hc']; rfl
  have h3 : r = r' := by rw [← h1, ← h2, e]
  subst h3
  exact h ⟨rfl, by omega⟩

def setOb (ob : Ob) (r : Nat) (row : List V) : Ob := ⟨ob.s, ob.rows.set r row⟩

theorem getSet {α : Type} (l : List α) (k j : Nat) (x : α) : (l.set k x)[j]? = if k = j then (if k < l.length then some x else none) else l[j]? := by
  rw [List.getElem?_set]

theorem live_set {A : Nat → Prop} {T : Tab} {objs : Objs} {k : Nat} {ob ob' : Ob} (hk : objs[k]? = some (some ob)) (b : Nat) : Live A T (objs.set k (some ob')) b ↔ Live A T objs b := by
  have hlt : k < objs.length := by
    rcases Nat.lt_or_ge k objs.length with g | g
    · exact g
    · rw [List.getElem?_eq_none g] at hk; cases hk
  constructor
  · rintro (h | ⟨j, x, s, h1, h2⟩)
    · exact .inl h
    · by_cases e : k = j
      · subst e; exact .inr ⟨k, ob, s, hk, h2⟩
      · rw [List.getElem?_set_ne e] at h1; exact .inr ⟨j, x, s, h1, h2⟩
  · rintro (h | ⟨j, x, s, h1, h2⟩)
    · exact .inl h
    · by_cases e : k = j
      · subst e; exact .inr ⟨k, ob', s, by simp [hlt], h2⟩
      · exact .inr ⟨j, x, s, by rw [List.getElem?_set_ne e]; exact h1, h2⟩

/-- A cell is written. -/
theorem HoldsT.set {X : Ctx} {T : Tab} {a : Act} {w : World} (h : HoldsT X T σ a w) {k : Nat} {ob : Ob} (hk : σ.objs[k]? = some (some ob)) (hmay : may σ k = true)
    {r c : Nat} {row : List V} (hrow : ob.rows[r]? = some row) (hc : c < row.length) {q : V} {v : Value} (hq : Rep w (Live X.A T σ.objs) T q v) (hone : q.one = true)
    {b : Nat} (hT : T[k]? = some (b, ob.s)) :
    HoldsT X T { σ with objs := σ.objs.set k (some (setOb ob r (row.set c q))) } a (w.setCell ⟨b, r * ob.s + c, none⟩ v) ∧
    (∀ (p : V) (x : Value), Rep w (Live X.A T σ.objs) T p x → Rep (w.setCell ⟨b, r * ob.s + c, none⟩ v) (Live X.A T (σ.objs.set k (some (setOb ob r (row.set c q))))) T p x) ∧
    w.cell? ⟨b, r * ob.s + c, none⟩ ≠ none ∧ w.frozen? ⟨b, r * ob.s + c, none⟩ = false := by
  obtain ⟨b', hT', hA, C, t, hb, hrows, hcells⟩ := h.mem.obj k ob hk
  rw [hT] at hT'
  injection hT' with e
  injection e with e _
  subst e
  have hlen : row.length = ob.s := (hrows row (List.mem_of_getElem? hrow)).1
  have hlt : k < σ.objs.length := by
    rcases Nat.lt_or_ge k σ.objs.length with g | g
    · exact g
    · rw [List.getElem?_eq_none g] at hk; cases hk
  have hrep : ∀ (p : V) (x : Value), Rep w (Live X.A T σ.objs) T p x → Rep (w.setCell ⟨b, r * ob.s + c, none⟩ v) (Live X.A T (σ.objs.set k (some (setOb ob r (row.set c q))))) T p x := by
    intro p x hp
    refine hp.later (by rw [setCell_size]; exact Nat.le_refl _) (fun b' _ hn => setCell_other w b _ v (fun e => hn (by subst e; exact .inr ⟨k, ob, ob.s, hk, hT⟩)))
      (fun b' _ hn hl => hn ((live_set hk b').mp hl)) (setCell_shape w b _ v) (fun _ _ h => h)
  have hin : ∃ y, C[r * ob.s + c]? = some y := by
    obtain ⟨y, hy, _⟩ := hcells r row hrow c row[c] (List.getElem?_eq_getElem hc)
    exact ⟨y, hy⟩
  refine ⟨⟨h.pre, ⟨by simp [h.mem.len], ?_, ?_, fun b hb => by rw [setCell_size]; exact h.mem.avoid b hb⟩, fun t v hv => hrep _ _ (h.tmp t v hv), h.size, h.defers, ?_, h.fresh, h.avoid0, h.hm, h.hmods⟩, hrep, ?_, ?_⟩
  · intro j x hj
    by_cases e : k = j
    · subst e
      rw [List.getElem?_set_self hlt] at hj
      injection hj with hj
      injection hj with hj
      subst hj
      refine ⟨b, hT, hA, _, t, setCell_same w b _ v hb, ?_, ?_⟩
      · intro row' hr'
        rcases List.mem_or_eq_of_mem_set hr' with g | g
        · exact hrows row' g
        · subst g
          refine ⟨by simpa [setOb] using hlen, fun p hp => ?_⟩
          rcases List.mem_or_eq_of_mem_set hp with g | g
          · exact (hrows row (List.mem_of_getElem? hrow)).2 p g
          · subst g; exact hone
      · intro r' row' hr' c' p hp
        have hr'' : (ob.rows.set r (row.set c q))[r']? = some row' := hr'
        by_cases er : r = r'
        · subst er
          have hrlt : r < ob.rows.length := by
            rcases Nat.lt_or_ge r ob.rows.length with g | g
            · exact g
            · rw [List.getElem?_eq_none g] at hrow; cases hrow
          rw [List.getElem?_set_self hrlt] at hr''
          injection hr'' with hr''
          subst hr''
          by_cases ec : c = c'
          · subst ec
            rw [List.getElem?_set_self hc] at hp
            injection hp with hp
            subst hp
            obtain ⟨y, hy⟩ := hin
            have hcl : r * ob.s + c < C.size := by
              rcases Nat.lt_or_ge (r * ob.s + c) C.size with g | g
              · exact g
              · rw [Array.getElem?_eq_none g] at hy; cases hy
            exact ⟨v, by show (C.setIfInBounds (r * ob.s + c) v)[r * ob.s + c]? = some v; simp [hcl], hrep _ _ hq⟩
          · rw [List.getElem?_set_ne ec] at hp
            obtain ⟨x, h1, h2⟩ := hcells r row hrow c' p hp
            have hc' := lt_of_some hp
            refine ⟨x, ?_, hrep _ _ h2⟩
            show (C.setIfInBounds (r * ob.s + c) v)[r * ob.s + c']? = some x
            rw [Array.getElem?_setIfInBounds_ne (by omega)]
            exact h1
        · rw [List.getElem?_set_ne er] at hr''
          obtain ⟨x, h1, h2⟩ := hcells r' row' hr'' c' p hp
          have hc' := lt_of_some hp
          have hl' : row'.length = ob.s := (hrows row' (List.mem_of_getElem? hr'')).1
          refine ⟨x, ?_, hrep _ _ h2⟩
          show (C.setIfInBounds (r * ob.s + c) v)[r' * ob.s + c']? = some x
          rw [Array.getElem?_setIfInBounds_ne (flat_ne (by omega) (by omega) (fun h => er h.1))]
          exact h1
    · rw [List.getElem?_set_ne e] at hj
      obtain ⟨b', h1, h2, C', t', h3, h4, h5⟩ := h.mem.obj j x hj
      have hne : b' ≠ b := fun e' => e (by subst e'; exact h.mem.inj k j ob x b' ob.s x.s hk hj hT h1)
      refine ⟨b', h1, h2, C', t', by rw [setCell_other w b _ v hne]; exact h3, h4, fun r row hr c q hq => ?_⟩
      obtain ⟨y, h6, h7⟩ := h5 r row hr c q hq
      exact ⟨y, h6, hrep _ _ h7⟩
  · intro i j x y b1 s s' hi hj hbi hbj
    have live : ∀ (j : Nat) (z : Ob), (σ.objs.set k (some (setOb ob r (row.set c q))))[j]? = some (some z) → ∃ z', σ.objs[j]? = some (some z') := by
      intro j z hz
      by_cases e : k = j
      · subst e; exact ⟨ob, hk⟩
      · rw [List.getElem?_set_ne e] at hz; exact ⟨z, hz⟩
    obtain ⟨x', hx'⟩ := live i x hi
    obtain ⟨y', hy'⟩ := live j y hj
    exact h.mem.inj i j x' y' b1 s s' hx' hy' hbi hbj
  · have hk' := h.keep
    have hM := may_spec h hmay hT
    refine ⟨hk'.os, hk'.tape, hk'.output, by rw [setCell_size]; exact hk'.size, fun b1 hb1 hn => ?_, fun b1 C1 t1 hb1 => ?_⟩
    · rw [setCell_other w b _ v (fun e => by subst e; rcases hM with g | g; · omega
                                             · exact hn g)]
      exact hk'.block b1 hb1 hn
    · obtain ⟨C2, h1, h2⟩ := hk'.shape b1 C1 t1 hb1
      obtain ⟨C3, h3, h4⟩ := setCell_shape w b (r * ob.s + c) v b1 C2 t1 h1
      exact ⟨C3, h3, h4.trans h2⟩
  · obtain ⟨y, hy⟩ := hin
    simp [World.cell?, hb, hy]
  · simp [World.frozen?, hb]

theorem stab_set {X : Ctx} {T : Tab} {a : Act} {w : World} {rm : List Nat} {k b s off : Nat} {v : Value} {ob : Ob} (hk : σ.objs[k]? = some (some ob)) (hT : T[k]? = some (b, s)) (hrm : k ∈ rm) :
    Stab (rmB T σ.objs rm) w (w.setCell ⟨b, off, none⟩ v) :=
  ⟨by rw [setCell_size]; exact Nat.le_refl _, fun b1 _ hn => setCell_other w b off v (fun e => hn (by subst e; exact ⟨k, ob, s, hrm, hk, hT⟩))⟩

theorem rmB_set {T : Tab} {objs : Objs} {rm : List Nat} {k : Nat} {ob ob' : Ob} (hk : objs[k]? = some (some ob)) (b : Nat) (h : rmB T (objs.set k (some ob')) rm b) : rmB T objs rm b := by
  obtain ⟨j, x, s, h1, h2, h3⟩ := h
  by_cases e : k = j
  · subst e; exact ⟨k, ob, s, h1, hk, h3⟩
  · rw [List.getElem?_set_ne e] at h2; exact ⟨j, x, s, h1, h2, h3⟩

/-- A word is stored. -/
theorem qo_store_word {rm : List Nat} {o : Oper} {t : TypeId} {ti : TI} {x y : Operand} {k r c : Nat} {ob : Ob} {row : List V} {q : V} {N : St → Prop} (ho : o.op = .store t x y) (hdst : o.dst = none)
    (hx : evalV σ x = some (.ptr k r c)) (hy : evalV σ y = some q) (hone : q.one = true) (ht : TyOK P t ti) (hs : ti.size = 1) (hk : σ.objs[k]? = some (some ob)) (hrow : ob.rows[r]? = some row)
    (hc : c < row.length) (hmay : may σ k = true) (hrm : k ∈ rm) (h : N { σ with objs := σ.objs.set k (some (setOb ob r (row.set c q))) }) : QO P rm o σ N K := by
  intro X T a w hh
  obtain ⟨b, s, hT, e1⟩ := rep_ptr (eval_rep hh hx)
  have hr := eval_rep hh hy
  obtain ⟨b', hT', _⟩ := hh.mem.obj k ob hk
  rw [hT] at hT'
  injection hT' with e
  injection e with e e'
  subst e e'
  obtain ⟨g1, g2, g3, g4⟩ := hh.set hk hmay hrow hc hr hone hT
  have hcell : ∃ z, w.cell? ⟨b, r * ob.s + c, none⟩ = some z := by
    cases hz : w.cell? ⟨b, r * ob.s + c, none⟩ with
    | none => exact absurd hz g3
    | some z => exact ⟨z, rfl⟩
  obtain ⟨z, hz⟩ := hcell
  have hvc := cells_of_rep hr hone
  have hv1 := one_of_rep hr hone
  unfold Oper.wp
  have hrun : (execOp a.eval o).run P w = .ok .skip (w.setCell ⟨b, r * ob.s + c, none⟩ (a.eval y)) := by
    simp [execOp, ho, e1, Instr.storeAt, Instr.sureAddr, storeVar, hvc, ht.sizeOf, hs, storeCells, add_at, run_store, hv1, hz, g4]
  rw [hrun]
  refine ⟨T, _, h, ?_, stab_set (X := X) (a := a) hk hT hrm, fun b1 _ hb1 => rmB_set hk b1 hb1⟩
  rw [hdst]
  exact g1

/-- A row in which cells from a place on are others. -/
def putRow (row : List V) (c : Nat) : List V → List V
  | [] => row
  | q :: l => putRow (row.set c q) (c + 1) l

theorem putRow_length (l : List V) : ∀ (row : List V) (c : Nat), (putRow row c l).length = row.length := by
  induction l with
  | nil => intro row c; rfl
  | cons q l ih => intro row c; simp [putRow, ih]

theorem set_id {α : Type} {l : List α} {k : Nat} {x : α} (h : l[k]? = some x) : l.set k x = l := by
  apply List.ext_getElem?
  intro j
  rw [List.getElem?_set]
  by_cases e : k = j
  · subst e
    rw [if_pos rfl, h]
    have : k < l.length := by
      rcases Nat.lt_or_ge k l.length with g | g
      · exact g
      · rw [List.getElem?_eq_none g] at h; cases h
    rw [if_pos this]
  · rw [if_neg e]

theorem lt_of_get {α : Type} {l : List α} {k : Nat} {x : α} (h : l[k]? = some x) : k < l.length := by
  rcases Nat.lt_or_ge k l.length with g | g
  · exact g
  · rw [List.getElem?_eq_none g] at h; cases h

theorem store_cells {X : Ctx} {T : Tab} {a : Act} {rm : List Nat} {k r b c0 : Nat} (hrm : k ∈ rm) : ∀ (l : List V) (vs : List Value) (i : Nat) (σ : St) (w : World) (ob : Ob) (row : List V), HoldsT X T σ a w →
    σ.objs[k]? = some (some ob) → T[k]? = some (b, ob.s) → may σ k = true → ob.rows[r]? = some row → c0 + i + l.length ≤ row.length → l.length = vs.length →
    (∀ (j : Nat) (q : V) (v : Value), l[j]? = some q → vs[j]? = some v → Rep w (Live X.A T σ.objs) T q v) → l.all V.one = true →
    ∃ w', (storeCells ⟨b, r * ob.s + c0, none⟩ vs i).run P w = .ok () w' ∧ HoldsT X T { σ with objs := σ.objs.set k (some (setOb ob r (putRow row (c0 + i) l))) } a w' ∧
      Stab (rmB T σ.objs rm) w w' ∧ (∀ (p : V) (x : Value), Rep w (Live X.A T σ.objs) T p x → Rep w' (Live X.A T (σ.objs.set k (some (setOb ob r (putRow row (c0 + i) l))))) T p x) := by
  intro l
  induction l with
  | nil =>
    intro vs i σ w ob row hh hk hT hmay hrow hlen hvs hrep hone
    have : vs = [] := by cases vs with | nil => rfl | cons _ _ => simp at hvs
    subst this
    have e : σ.objs.set k (some (setOb ob r (putRow row (c0 + i) []))) = σ.objs := by
      apply set_id
      rw [hk]
      congr 2
      unfold setOb putRow
      rw [set_id hrow]
    rw [e]
    exact ⟨w, by simp [storeCells], hh, Stab.refl _ _, fun _ _ h => h⟩
  | cons q l ih =>
    intro vs i σ w ob row hh hk hT hmay hrow hlen hvs hrep hone
    obtain ⟨v, vs, rfl⟩ : ∃ v vs', vs = v :: vs' := by cases vs with | nil => simp at hvs | cons v vs => exact ⟨v, vs, rfl⟩
    simp only [List.all_cons, Bool.and_eq_true] at hone
    have hq := hrep 0 q v rfl rfl
    simp only [List.length_cons] at hlen hvs
    obtain ⟨g1, g2, g3, g4⟩ := hh.set hk hmay hrow (c := c0 + i) (by omega) hq hone.1 hT
    have hkl := lt_of_get hk
    have hrl := lt_of_get hrow
    obtain ⟨w', h1, h2, h3, h4⟩ := ih vs (i + 1) { σ with objs := σ.objs.set k (some (setOb ob r (row.set (c0 + i) q))) } _ (setOb ob r (row.set (c0 + i) q)) (row.set (c0 + i) q) g1
      (by simp [hkl]) hT hmay (by simp [setOb, hrl]) (by simp; omega) (by omega)
      (fun j p x hp hx => g2 p x (hrep (j + 1) p x (by simpa using hp) (by simpa using hx))) hone.2
    have hcell : ∃ z, w.cell? ⟨b, r * ob.s + (c0 + i), none⟩ = some z := by
      cases hz : w.cell? ⟨b, r * ob.s + (c0 + i), none⟩ with
      | none => exact absurd hz g3
      | some z => exact ⟨z, rfl⟩
    obtain ⟨z, hz⟩ := hcell
    have e : (σ.objs.set k (some (setOb ob r (row.set (c0 + i) q)))).set k (some (setOb (setOb ob r (row.set (c0 + i) q)) r (putRow (row.set (c0 + i) q) (c0 + (i + 1)) l))) =
        σ.objs.set k (some (setOb ob r (putRow row (c0 + i) (q :: l)))) := by
      rw [List.set_set]
      congr 2
      simp [setOb, putRow, List.set_set, Nat.add_assoc]
    refine ⟨w', ?_, ?_, ?_, ?_⟩
    · have hv1 := one_of_rep hq hone.1
      have h1' : (storeCells ⟨b, r * ob.s + c0, none⟩ vs (i + 1)).run P (w.setCell ⟨b, r * ob.s + (c0 + i), none⟩ v) = .ok () w' := h1
      simp [storeCells, add_at, run_store, hv1, Nat.add_assoc, hz, g4, h1']
    · simp only at h2
      rw [e] at h2
      exact h2
    · refine ⟨by have := h3.1; rw [setCell_size] at this; exact this, fun b1 hb1 hn => ?_⟩
      have hn' : ¬ rmB T (σ.objs.set k (some (setOb ob r (row.set (c0 + i) q)))) rm b1 := fun hx => hn (rmB_set hk b1 hx)
      rw [h3.2 b1 (by rw [setCell_size]; exact hb1) hn']
      exact setCell_other w b _ v (fun e => hn (by subst e; exact ⟨k, ob, ob.s, hrm, hk, hT⟩))
    · intro p x hp
      have := h4 p x (g2 p x hp)
      simp only at this
      rw [e] at this
      exact this

/-- A struct is stored. -/
theorem qo_store_agg {rm : List Nat} {o : Oper} {t : TypeId} {ti : TI} {x y : Operand} {k r c : Nat} {ob : Ob} {row l : List V} {N : St → Prop} (ho : o.op = .store t x y) (hdst : o.dst = none)
    (hx : evalV σ x = some (.ptr k r c)) (hy : evalV σ y = some (.agg l)) (hone : l.all V.one = true) (ht : TyOK P t ti) (hs : ti.size = l.length) (hk : σ.objs[k]? = some (some ob)) (hrow : ob.rows[r]? = some row)
    (hc : c + l.length ≤ row.length) (hmay : may σ k = true) (hrm : k ∈ rm) (h : N { σ with objs := σ.objs.set k (some (setOb ob r (putRow row c l))) }) : QO P rm o σ N K := by
  intro X T a w hh
  obtain ⟨b, s, hT, e1⟩ := rep_ptr (eval_rep hh hx)
  obtain ⟨vs, e2, hvs, hr⟩ := rep_agg (eval_rep hh hy)
  obtain ⟨b', hT', _⟩ := hh.mem.obj k ob hk
  rw [hT] at hT'
  injection hT' with e
  injection e with e e'
  subst e e'
  obtain ⟨w', h1, h2, h3, h4⟩ := store_cells (P := P) hrm (r := r) (c0 := c) l vs.toList 0 σ w ob row hh hk hT hmay hrow (by omega) (by simp [hvs])
    (fun j q v hq hv => by
      have := hr j q hq
      rw [getD_of (by simpa using hv)] at this
      exact this) hone
  unfold Oper.wp
  have hrun : (execOp a.eval o).run P w = .ok .skip w' := by
    simp [execOp, ho, e1, e2, Instr.storeAt, Instr.sureAddr, storeVar, Value.cells, ht.sizeOf, hs, hvs, h1]
  rw [hrun]
  refine ⟨T, _, h, ?_, h3, fun b1 _ hb1 => rmB_set hk b1 hb1⟩
  rw [hdst]
  exact h2

end Go.Proofs.Ytohchoelhnipmaa.Q
