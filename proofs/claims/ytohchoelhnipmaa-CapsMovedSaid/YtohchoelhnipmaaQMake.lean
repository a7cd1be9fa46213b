/- Literals of structs and slices, and make, in the logic. -/
import Derived.Test.YtohchoelhnipmaaQGrow
import Derived.IntWalk
namespace Go.Proofs.Ytohchoelhnipmaa.Q
open Go Go.RowKit
set_option linter.unusedSimpArgs false
set_option linter.unusedVariables false

variable {P : Program} {σ : St} {K : Ex → St → Prop}

/-- Cells by content. -/
def RepL (w : World) (L : Nat → Prop) (T : Tab) (row : List V) (cs : Array Value) : Prop :=
  cs.size = row.length ∧ ∀ (i : Nat) (q : V), row[i]? = some q → ∃ x, cs[i]? = some x ∧ Rep w L T q x

theorem RepL.set {w : World} {L : Nat → Prop} {T : Tab} {row : List V} {cs : Array Value} (h : RepL w L T row cs) {c : Nat} (hc : c < row.length) {q : V} {v : Value} (hq : Rep w L T q v) :
    RepL w L T (row.set c q) (cs.setIfInBounds c v) := by
  refine ⟨by simp [h.1], fun i p hp => ?_⟩
  by_cases e : c = i
  · subst e
    rw [List.getElem?_set_self hc] at hp
    cases hp
    exact ⟨v, by simp [h.1, hc], hq⟩
  · rw [List.getElem?_set_ne e] at hp
    obtain ⟨x, h1, h2⟩ := h.2 i p hp
    exact ⟨x, by rw [Array.getElem?_setIfInBounds_ne e]; exact h1, h2⟩

theorem RepL.puts {w : World} {L : Nat → Prop} {T : Tab} {off : Nat} : ∀ (l : List V) (vs : List Value) (j : Nat) (row : List V) (cs : Array Value), RepL w L T row cs → l.length = vs.length → off + j + l.length ≤ row.length →
    (∀ (i : Nat) (q : V) (v : Value), l[i]? = some q → vs[i]? = some v → Rep w L T q v) →
    RepL w L T (putRow row (off + j) l) ((vs.zipIdx j).foldl (fun cs x => cs.setIfInBounds (off + x.2) x.1) cs)
  | [], vs, j, row, cs, h, hl, _, _ => by
    have : vs = [] := by cases vs with | nil => rfl | cons _ _ => simp at hl
    subst this
    simpa [putRow] using h
  | q :: l, vs, j, row, cs, h, hl, hlen, hr => by
    obtain ⟨v, vs, rfl⟩ : ∃ v vs', vs = v :: vs' := by cases vs with | nil => simp at hl | cons v vs => exact ⟨v, vs, rfl⟩
    simp only [List.length_cons] at hl hlen
    simp only [putRow, List.zipIdx_cons, List.foldl_cons]
    have := RepL.puts (off := off) l vs (j + 1) (row.set (off + j) q) (cs.setIfInBounds (off + j) v) (h.set (by omega) (hr 0 q v rfl rfl)) (by omega) (by rw [List.length_set]; omega)
      (fun i p x hp hx => hr (i + 1) p x (by simpa using hp) (by simpa using hx))
    rw [show off + (j + 1) = off + j + 1 by omega] at this
    exact this

/-- Parts laid over cells: where each one goes. -/
def fillV (place : Nat → Option (Nat × Nat)) : List V → List (Nat × V) → Option (List V)
  | row, [] => some row
  | row, (i, q) :: rest => match place i with
    | none => none
    | some (off, size) => match Nat.beq (cellsV q).length size, Nat.ble (off + size) row.length, (cellsV q).all V.one with
      | true, true, true => fillV place (putRow row off (cellsV q)) rest
      | _, _, _ => none

theorem fill_sound {w : World} {L : Nat → Prop} {T : Tab} {place : Nat → Option (Nat × Nat)} : ∀ (parts : List (Nat × V)) (vs : List (Nat × Value)) (row row' : List V) (cs : Array Value),
    RepL w L T row cs → parts.length = vs.length → (∀ (j : Nat) (p : Nat × V) (x : Nat × Value), parts[j]? = some p → vs[j]? = some x → p.1 = x.1 ∧ Rep w L T p.2 x.2) → fillV place row parts = some row' →
    ∃ cs', Instr.fill place cs vs = some cs' ∧ RepL w L T row' cs'
  | [], vs, row, row', cs, h, hl, _, hf => by
    have : vs = [] := by cases vs with | nil => rfl | cons _ _ => simp at hl
    subst this
    cases hf
    exact ⟨cs, rfl, h⟩
  | (i, q) :: parts, vs, row, row', cs, h, hl, hr, hf => by
    obtain ⟨⟨i', v⟩, vs, rfl⟩ : ∃ v vs', vs = v :: vs' := by cases vs with | nil => simp at hl | cons v vs => exact ⟨v, vs, rfl⟩
    obtain ⟨e, hq⟩ := hr 0 (i, q) (i', v) rfl rfl
    simp only at e hq
    subst e
    unfold fillV at hf
    split at hf
    · cases hf
    · rename_i off size hp
      split at hf
      · rename_i h1 h2 h3
        have h1 := Nat.eq_of_beq_eq_true h1
        have h2 := Nat.le_of_ble_eq_true h2
        obtain ⟨g1, g2⟩ := cellsV_rep hq h3
        have hput := RepL.puts (off := off) (cellsV q) v.cells.toList 0 row cs h (by simpa using g1.symm) (by omega) (fun j p x hp hx => by
          obtain ⟨y, f1, f2⟩ := g2 j p hp
          have : v.cells[j]? = some x := by simpa using hx
          rw [f1] at this
          cases this
          exact f2)
        obtain ⟨cs', k1, k2⟩ := fill_sound parts vs _ row' _ hput (by simpa using hl) (fun j p x hp hx => hr (j + 1) p x (by simpa using hp) (by simpa using hx)) hf
        refine ⟨cs', ?_, k2⟩
        unfold Instr.fill
        rw [hp]
        simp only
        rw [if_neg (by simp only [g1, h1, h.1]; simp; omega)]
        rw [← k1]
        congr 1
        rw [← Array.foldl_toList, Array.toList_zipIdx]
      · cases hf

/-- The parts of a literal. -/
def evalParts (σ : St) : List (Nat × Operand) → Option (List (Nat × V))
  | [] => some []
  | (i, x) :: xs => match evalV σ x, evalParts σ xs with
    | some v, some l => some ((i, v) :: l)
    | _, _ => none

theorem evalParts_some {σ : St} : ∀ {xs : List (Nat × Operand)} {l : List (Nat × V)}, evalParts σ xs = some l → l.length = xs.length ∧
    ∀ (j : Nat) (p : Nat × V), l[j]? = some p → ∃ x, xs[j]? = some (p.1, x) ∧ evalV σ x = some p.2
  | [], l, h => by cases h; exact ⟨rfl, fun i q hq => by simp at hq⟩
  | (i, x) :: xs, l, h => by
    unfold evalParts at h
    split at h
    · rename_i v l' hv hl
      cases h
      obtain ⟨h1, h2⟩ := evalParts_some hl
      refine ⟨by simp [h1], fun j q hq => ?_⟩
      cases j with
      | zero => simp at hq; subst hq; exact ⟨x, rfl, hv⟩
      | succ j => simp at hq; obtain ⟨y, h3, h4⟩ := h2 j q hq; exact ⟨y, by simpa using h3, h4⟩
    · cases h

theorem parts_rep {X : Ctx} {T : Tab} {a : Act} {w : World} (h : HoldsT X T σ a w) {parts : Array (Nat × Operand)} {l : List (Nat × V)} (hl : evalParts σ parts.toList = some l) :
    l.length = (parts.map fun x => (x.1, a.eval x.2)).toList.length ∧
    ∀ (j : Nat) (p : Nat × V) (x : Nat × Value), l[j]? = some p → (parts.map fun x => (x.1, a.eval x.2)).toList[j]? = some x → p.1 = x.1 ∧ Rep w (Live X.A T σ.objs) T p.2 x.2 := by
  obtain ⟨h1, h2⟩ := evalParts_some hl
  refine ⟨by simpa using h1, fun j p x hp hx => ?_⟩
  obtain ⟨y, h3, h4⟩ := h2 j p hp
  have : (parts.map fun x => (x.1, a.eval x.2)).toList[j]? = some (p.1, a.eval y) := by
    simp at h3
    simp [h3]
  rw [this] at hx
  cases hx
  exact ⟨rfl, eval_rep h h4⟩

theorem zero_repL {w : World} {L : Nat → Prop} {T : Tab} (z : Array Value) : RepL w L T (z.toList.map V.sc) z := by
  refine ⟨by simp, fun i q hq => ?_⟩
  rw [List.getElem?_map] at hq
  simp only [Option.map_eq_some_iff] at hq
  obtain ⟨v, hv, rfl⟩ := hq
  exact ⟨v, by simpa using hv, .pure (.sc v)⟩

def placeOf (fs : List (Nat × Nat × Bool)) (i : Nat) : Option (Nat × Nat) := match fs[i]? with
  | some (off, size, _) => some (off, size)
  | none => none

theorem fields_places {t : TypeId} {ti : TI} (ht : TyOK P t ti) {fs : List (Nat × Nat × Bool)} (hs : ti.sh = .struct fs) :
    ∃ F : Array Field, P.underlying t = some (.struct F) ∧
      ∀ w, (F.mapM fun (f : Field) => do pure (f.offset, ← sizeOf f.type)).run P w = .ok (fs.map fun x => (x.1, x.2.1)).toArray w := by
  have h1 := ht.sh
  unfold shOf at h1
  rw [hs] at h1
  obtain ⟨F, hF, _⟩ := struct_of ht hs
  rw [hF] at h1
  simp only [Option.map_eq_some_iff] at h1
  obtain ⟨l, hl, hle⟩ := h1
  injection hle with hle
  subst hle
  refine ⟨F, hF, fun w => ?_⟩
  have key : ∀ (L : List Field) (l : List (Nat × Nat × Bool)), L.mapM (fieldSh P) = some l → (L.mapM fun (f : Field) => do pure (f.offset, ← sizeOf f.type)).run P w = .ok (l.map fun x => (x.1, x.2.1)) w := by
    intro L
    induction L with
    | nil => intro l hl; simp at hl; subst hl; simp
    | cons f L ih =>
      intro l hl
      rw [List.mapM_cons] at hl
      simp only [Option.pure_def, Option.bind_eq_bind, Option.bind_eq_some_iff] at hl
      obtain ⟨y, hy, l', hl', hle⟩ := hl
      injection hle with hle
      subst hle
      have h2 := ih l' hl'
      unfold fieldSh at hy
      split at hy
      · rename_i j d hj hd
        injection hy with hy
        subst hy
        rw [List.mapM_cons]
        simp [Go.sizeOf, typeInfo, hj] at h2 ⊢
        rw [h2]
        rfl
      · cases hy
  have h2 := key F.toList l hl
  rw [← Array.toList_mapM] at h2
  simp only [Sem.run_map] at h2
  cases hr : (F.mapM fun (f : Field) => do pure (f.offset, ← sizeOf f.type) : Sem (Array (Nat × Nat))).run P w with
  | ok v w' =>
    rw [hr] at h2
    simp at h2
    obtain ⟨e1, e2⟩ := h2
    subst e2
    rw [← e1]
  | halt x w' => rw [hr] at h2; simp at h2

theorem placeOf_eq (fs : List (Nat × Nat × Bool)) : placeOf fs = fun i => ((fs.map fun x => (x.1, x.2.1)).toArray)[i]? := by
  funext i
  unfold placeOf
  simp
  cases fs[i]? with
  | none => rfl
  | some p => rfl

theorem qq_build {rm : List Nat} {o : Oper} {t : TypeId} {ti : TI} {fs : List (Nat × Nat × Bool)} {parts : Array (Nat × Operand)} {l : List (Nat × V)} {row : List V} (ho : o.op = .build t parts)
    (hl : evalParts σ parts.toList = some l) (ht : TyOK P t ti) (hs : ti.sh = .struct fs) (hf : fillV (placeOf fs) (ti.zero.map V.sc) l = some row) : QQ P σ rm o (.agg row) := by
  intro X T a w h
  obtain ⟨z, hz1, hz2⟩ := ht.zeroValue
  obtain ⟨F, hF, hpl⟩ := fields_places ht hs
  obtain ⟨h1, h2⟩ := parts_rep h hl
  have hz0 : RepL w (Live X.A T σ.objs) T (ti.zero.map V.sc) z.cells := by rw [← hz1]; exact zero_repL _
  obtain ⟨cs, h3, h4⟩ := fill_sound l _ _ row z.cells hz0 h1 h2 hf
  rw [placeOf_eq] at h3
  refine ⟨.agg cs, .agg row cs h4.1 (fun i q hq => by
    obtain ⟨x, h5, h6⟩ := h4.2 i q hq
    rw [getD_of h5]
    exact h6), fun w' _ => ?_⟩
  have hp := hpl w'
  simp only [execOp, ho, Instr.build, Sem.run_bind, hz2, Result.andThen, run_underlying hF, hp, h3, Sem.run_pure]

theorem flatten_at {rows : List (List V)} {s : Nat} (hrows : ∀ row ∈ rows, row.length = s) {r : Nat} {row : List V} (hr : rows[r]? = some row) {c : Nat} {q : V} (hq : row[c]? = some q) : rows.flatten[r * s + c]? = some q := by
  induction rows generalizing r with
  | nil => simp at hr
  | cons x rows ih =>
    have hx : x.length = s := hrows x (by simp)
    cases r with
    | zero =>
      simp at hr
      subst hr
      rw [List.flatten_cons, Nat.zero_mul, Nat.zero_add, List.getElem?_append_left (lt_of_some hq)]
      exact hq
    | succ r =>
      simp at hr
      rw [List.flatten_cons, List.getElem?_append_right (by rw [hx, Nat.add_mul]; omega), hx, show (r + 1) * s + c - s = r * s + c by rw [Nat.add_mul]; omega]
      exact ih (fun row h => hrows row (by simp [h])) hr

/-- A literal of a slice. -/
theorem qo_buildSlice {rm : List Nat} {o : Oper} {t : TypeId} {e es eb n : Nat} {te : TI} {parts : Array (Nat × Operand)} {l : List (Nat × V)} {rows : List (List V)} {N : St → Prop} (ho : o.op = .buildSlice t n parts)
    (hl : evalParts σ parts.toList = some l) (hel : ElOK P t e es eb) (he : TyOK P e te) (hes : 0 < n * es) (hbig : n * es ≤ 16777216)
    (hf : fillV (fun i => some (i * es, es)) ((List.replicate n (te.zero.map V.sc)).flatten) l = some rows.flatten) (hn : rows.length = n) (hrows : ∀ row ∈ rows, row.length = es ∧ ∀ q ∈ row, q.one = true) (hd : dstOK o σ = true)
    (h : N (({ σ with objs := σ.objs ++ [some ⟨es, rows⟩] } : St).put o.dst (.sl σ.objs.length 0 n))) : QO P rm o σ N K := by
  intro X T a w hh
  obtain ⟨hu, i, z, hi, h1, h2, hz, hzs⟩ := hel
  subst h1
  obtain ⟨g1, g2⟩ := parts_rep hh hl
  have hzz : z.cells.toList = te.zero := by
    have := he.zero
    rw [hi, Option.map_some, hz] at this
    simpa using this
  have hz0 : RepL w (Live X.A T σ.objs) T ((List.replicate n (te.zero.map V.sc)).flatten) ((Array.range (n * i.size)).map (fun j => z.cells[j % z.cells.size]!)) := by
    have hz00 : 0 < z.cells.size := by
      rcases Nat.eq_zero_or_pos z.cells.size with g | g
      · rw [hzs] at g; rw [g] at hes; omega
      · exact g
    have htl : te.zero.length = i.size := by rw [← hzz]; simpa using hzs
    refine ⟨by simp [htl], fun j q hq => ?_⟩
    have hj : j < n * i.size := by
      have := lt_of_some hq
      simpa [htl] using this
    refine ⟨z.cells[j % z.cells.size]!, by simp [hj], ?_⟩
    have hrow : (List.replicate n (te.zero.map V.sc))[j / i.size]? = some (te.zero.map V.sc) := by
      rw [List.getElem?_replicate, if_pos ((Nat.div_lt_iff_lt_mul (by omega)).mpr hj)]
    have hc : j % i.size < te.zero.length := by rw [htl]; exact Nat.mod_lt _ (by omega)
    have hq2 := flatten_at (rows := List.replicate n (te.zero.map V.sc)) (s := i.size) (fun row hr => by rw [List.mem_replicate] at hr; rw [hr.2]; simpa using htl) hrow (c := j % i.size) (q := V.sc te.zero[j % i.size])
      (by rw [List.getElem?_map, List.getElem?_eq_getElem hc]; rfl)
    rw [show j / i.size * i.size + j % i.size = j by rw [Nat.mul_comm]; exact Nat.div_add_mod j i.size, hq] at hq2
    cases hq2
    have : z.cells[j % z.cells.size]! = te.zero[j % i.size] := by
      have hlt : j % z.cells.size < z.cells.size := Nat.mod_lt _ hz00
      rw [getElem!_pos z.cells _ hlt]
      have h5 : z.cells.toList[j % z.cells.size]? = te.zero[j % i.size]? := by rw [hzz, hzs]
      rw [List.getElem?_eq_getElem (by simpa using hlt), List.getElem?_eq_getElem hc] at h5
      simpa using h5
    rw [this]
    exact .pure (.sc _)
  obtain ⟨cs, h3, h4⟩ := fill_sound l _ _ _ _ hz0 g1 g2 hf
  obtain ⟨k1, k2⟩ := hh.new ⟨i.size, rows⟩ cs e hrows (fun r row hr c q hq => h4.2 _ q (flatten_at (fun row hrow => (hrows row hrow).1) hr hq))
  unfold Oper.wp
  have hrun : (execOp a.eval o).run P w = .ok (.value (.slice (some ⟨w.heap.size, 0, none⟩) n n)) (more w (.cells cs e (0, 0))) := by
    have h16 : ¬ (n * i.size > 2 ^ 24) := by omega
    have hne : ¬ (n * i.size = 0) := by omega
    simp only [execOp, ho, Instr.buildSlice, Sem.run_bind, Result.andThen, run_underlying hu, Go.sizeOf, typeInfo, run_program, hi, Sem.run_pure, Sem.run_ite, h16, if_false, hne, Go.zeroValue, hz, h3, newRow, run_newObj]
    rfl
  rw [hrun]
  refine ⟨_, _, h, k1.put (v := .sl σ.objs.length 0 n) ?_ (dstOK_spec hd), stab_more w _, ?_⟩
  · have hcs : cs.size = n * i.size := by
      rw [h4.1]
      have : ∀ rows : List (List V), (∀ row ∈ rows, row.length = i.size) → rows.flatten.length = rows.length * i.size := by
        intro rows
        induction rows with
        | nil => intro _; simp
        | cons x rows ih => intro hr; rw [List.flatten_cons, List.length_append, ih (fun r h => hr r (by simp [h])), hr x (by simp), List.length_cons, Nat.add_mul]; omega
      rw [this rows (fun row hr => (hrows row hr).1), hn]
    have := Rep.sl (w := more w (.cells cs e (0, 0))) (L := Live X.A (T ++ [(w.heap.size, i.size)]) (σ.objs ++ [some ⟨i.size, rows⟩])) (T := T ++ [(w.heap.size, i.size)])
      σ.objs.length 0 n n w.heap.size i.size (by rw [← hh.mem.len]; simp) (Nat.le_refl _) ⟨_, _, more_new _ _, by rw [hcs, Nat.zero_add]; exact Nat.le_refl _⟩
    simpa using this
  · rw [put_objs]
    exact fun b hb => rmB_more hh.mem.len b hb

/-- make of a slice. -/
theorem qo_makeSlice {rm : List Nat} {o : Oper} {t : TypeId} {x y : Operand} {e es eb n m : Nat} {k k' : IntKind} {te : TI} {N : St → Prop} (ho : o.op = .makeSlice t x y)
    (hx : evalV σ x = some (.sc (.int k n))) (hy : evalV σ y = some (.sc (.int k' m))) (hel : ElOK P t e es eb) (he : TyOK P e te) (hes : 0 < es) (hnm : n ≤ m) (hm0 : 0 < m) (h63 : m ≤ 9223372036854775807)
    (h48 : eb * m ≤ 281474976710656) (hone : (te.zero.map V.sc).all V.one = true) (hd : dstOK o σ = true)
    (h : N (({ σ with objs := σ.objs ++ [some ⟨es, List.replicate n (te.zero.map V.sc)⟩] } : St).put o.dst (.sl σ.objs.length 0 n))) : QO P rm o σ N K := by
  intro X T a w hh
  obtain ⟨hu, i, z, hi, h1, h2, hz, hzs⟩ := hel
  subst h1 h2
  have e1 := rep_sc (eval_rep hh hx)
  have e2 := rep_sc (eval_rep hh hy)
  have hzz : z.cells.toList = te.zero := by
    have := he.zero
    rw [hi, Option.map_some, hz] at this
    simpa using this
  have htl : te.zero.length = i.size := by rw [← hzz]; simpa using hzs
  let cs : Array Value := (Array.range (m * i.size)).map (fun j => z.cells[j % z.cells.size]!)
  have hcs : cs.size = m * i.size := by simp [cs]
  obtain ⟨k1, k2⟩ := hh.new ⟨i.size, List.replicate n (te.zero.map V.sc)⟩ cs e (fun row hrow => by
      rw [List.mem_replicate] at hrow
      rw [hrow.2]
      exact ⟨by simpa using htl, fun q hq => List.all_eq_true.mp hone q hq⟩)
    (fun r row hr c q hq => by
      rw [List.getElem?_replicate] at hr
      split at hr
      · rename_i hrn
        injection hr with hr
        subst hr
        rw [List.getElem?_map] at hq
        simp only [Option.map_eq_some_iff] at hq
        obtain ⟨v, hv, rfl⟩ := hq
        have hc : c < i.size := by rw [← htl]; exact lt_of_get hv
        have hj : r * i.size + c < m * i.size := by
          have : r * i.size + i.size ≤ m * i.size := by rw [← Nat.succ_mul]; exact Nat.mul_le_mul_right _ (by omega)
          omega
        refine ⟨v, ?_, .pure (.sc v)⟩
        have : cs[r * i.size + c]? = some (z.cells[(r * i.size + c) % z.cells.size]!) := by
          show ((Array.range (m * i.size)).map (fun j => z.cells[j % z.cells.size]!))[r * i.size + c]? = _
          rw [Array.getElem?_map, Array.getElem?_eq_getElem (by simpa using hj), Array.getElem_range]
          rfl
        rw [this]
        have e3 : (r * i.size + c) % z.cells.size = c := by rw [hzs, Nat.mul_comm, Nat.mul_add_mod]; exact Nat.mod_eq_of_lt hc
        have hlt : c < z.cells.size := by rw [hzs]; exact hc
        rw [e3, getElem!_pos z.cells c hlt]
        have h5 : z.cells.toList[c]? = some v := by rw [hzz]; exact hv
        rw [List.getElem?_eq_getElem (by simpa using hlt)] at h5
        simpa using h5
      · cases hr)
  unfold Oper.wp
  have hrun : (execOp a.eval o).run P w = .ok (.value (.slice (some ⟨w.heap.size, 0, none⟩) n m)) (more w (.cells cs e (0, 0))) := by
    have w1 : IntKind.i64.wrap (n : Int) = n := IntWalk.i64_in _ (by omega)
    have w2 : IntKind.i64.wrap (m : Int) = m := IntWalk.i64_in _ (by omega)
    have hne : ¬ (m * i.size = 0) := by
      intro h0
      rcases Nat.mul_eq_zero.mp h0 with g | g <;> omega
    have c1 : ¬ ((m : Int) < 0) := by omega
    have c2 : ¬ ((i.bytes : Int) * (m : Int) > 2 ^ 48) := by
      have h9 : ((i.bytes * m : Nat) : Int) ≤ 281474976710656 := Int.ofNat_le.mpr h48
      rw [Int.natCast_mul] at h9
      intro h10
      have h11 : (2 : Int) ^ 48 = 281474976710656 := by decide
      omega
    have c3 : ¬ ((n : Int) < 0) := by omega
    have c4 : ¬ ((n : Int) > (m : Int)) := by omega
    simp only [execOp, ho, Instr.makeSlice, Sem.run_bind, Result.andThen, run_underlying hu, e1, e2, asInt, asIntOf, Sem.run_pure, typeInfo, run_program, hi, w1, w2, c1, c2, c3, c4, decide_false, Bool.or_self, Bool.false_eq_true,
      if_false, run_askRoom, Go.sizeOf, Int.toNat_natCast, Sem.run_ite, hne, Go.zeroValue, hz, newRow, run_newObj]
    rfl
  rw [hrun]
  refine ⟨_, _, h, k1.put (v := .sl σ.objs.length 0 n) ?_ (dstOK_spec hd), stab_more w _, ?_⟩
  · have := Rep.sl (w := more w (.cells cs e (0, 0))) (L := Live X.A (T ++ [(w.heap.size, i.size)]) (σ.objs ++ [some ⟨i.size, List.replicate n (te.zero.map V.sc)⟩])) (T := T ++ [(w.heap.size, i.size)])
      σ.objs.length 0 n m w.heap.size i.size (by rw [← hh.mem.len]; simp) hnm ⟨_, _, more_new _ _, by rw [hcs, Nat.zero_add]; exact Nat.le_refl _⟩
    simpa using this
  · rw [put_objs]
    exact fun b hb => rmB_more hh.mem.len b hb

end Go.Proofs.Ytohchoelhnipmaa.Q
