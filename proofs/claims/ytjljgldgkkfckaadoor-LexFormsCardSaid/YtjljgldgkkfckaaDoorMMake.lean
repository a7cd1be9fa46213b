/- Literals of structs and slices, and make. -/
import Derived.Test.YtjljgldgkkfckaaDoorMAppend
import Derived.IntWalk
namespace Go.Proofs.YtjljgldgkkfckaaDoor.M
open Go Go.RowKit
set_option linter.unusedSimpArgs false
set_option linter.unusedVariables false

variable {ρ : Nat → Value} {P : Program} {σ : St} {K : Ex → St → Prop}

/-- Cells by content. -/
def RepL (ρ : Nat → Value) (w : World) (L : Nat → Prop) (T : Tab) (row : List V) (cs : Array Value) : Prop :=
  cs.size = row.length ∧ ∀ (i : Nat) (q : V), row[i]? = some q → ∃ x, cs[i]? = some x ∧ Rep ρ w L T q x

theorem foldl_putA {off : Nat} : ∀ (vs : List Value) (j : Nat) (cs : Array Value), ((vs.zipIdx j).foldl (fun cs x => cs.setIfInBounds (off + x.2) x.1) cs) = putA cs (off + j) vs
  | [], j, cs => rfl
  | v :: vs, j, cs => by
    rw [List.zipIdx_cons, List.foldl_cons, foldl_putA vs (j + 1)]
    rfl

/-- Parts laid over cells: where each one goes. -/
def fillV (place : Nat → Option (Nat × Nat)) : List V → List (Nat × V) → Option (List V)
  | row, [] => some row
  | row, (i, q) :: rest => match place i with
    | none => none
    | some (off, size) => match Nat.beq (cellsV q).length size, Nat.ble (off + size) row.length, (cellsV q).all V.one with
      | true, true, true => fillV place (splice off row (cellsV q)) rest
      | _, _, _ => none

theorem fill_sound {w : World} {L : Nat → Prop} {T : Tab} {place : Nat → Option (Nat × Nat)} : ∀ (parts : List (Nat × V)) (vs : List (Nat × Value)) (row row' : List V) (cs : Array Value),
    RepL ρ w L T row cs → parts.length = vs.length → (∀ (j : Nat) (p : Nat × V) (x : Nat × Value), parts[j]? = some p → vs[j]? = some x → p.1 = x.1 ∧ Rep ρ w L T p.2 x.2) → fillV place row parts = some row' →
    ∃ cs', Instr.fill place cs vs = some cs' ∧ RepL ρ w L T row' cs'
  | [], vs, row, row', cs, h, hl, _, hf => by
    have : vs = [] := by cases vs with | nil => rfl | cons _ _ => simp at hl
    subst this
    cases hf
    exact ⟨cs, rfl, h⟩
  | (i, q) :: parts, vs, row, row', cs, h, hl, hr, hf => by
    obtain ⟨⟨i', v⟩, vs, rfl⟩ : ∃ v vs', vs = v :: vs' := by cases vs with | nil => simp at hl | cons v vs => exact ⟨v, vs, rfl⟩
    obtain ⟨e, hq⟩ := hr 0 (i, q) (i', v) rfl rfl
    simp only at e hq
    subst e
    unfold fillV at hf
    split at hf
    · cases hf
    · rename_i off size hp
      split at hf
      · rename_i h1 h2 h3
        have h1 := Nat.eq_of_beq_eq_true h1
        have h2 := Nat.le_of_ble_eq_true h2
        obtain ⟨g1, g2⟩ := cellsV_rep hq h3
        have hvl : v.cells.toList.length = (cellsV q).length := by simpa using g1
        have hput : RepL ρ w L T (splice off row (cellsV q)) (putA cs off v.cells.toList) := by
          refine ⟨by rw [putA_size, splice_length]; exact h.1, fun j p hp => ?_⟩
          rw [splice_get _ _ _ _ (by omega)] at hp
          rw [putA_get _ _ _ _ (by rw [hvl, h.1]; omega), hvl]
          split at hp
          · rename_i hin
            obtain ⟨x, f1, f2⟩ := g2 _ p hp
            exact ⟨x, by rw [if_pos hin]; simpa using f1, f2⟩
          · rename_i hin
            obtain ⟨x, f1, f2⟩ := h.2 j p hp
            exact ⟨x, by rw [if_neg hin]; exact f1, f2⟩
        obtain ⟨cs', k1, k2⟩ := fill_sound parts vs _ row' _ hput (by simpa using hl) (fun j p x hp hx => hr (j + 1) p x (by simpa using hp) (by simpa using hx)) hf
        refine ⟨cs', ?_, k2⟩
        unfold Instr.fill
        rw [hp]
        simp only
        rw [if_neg (by simp only [g1, h1, h.1]; simp; omega)]
        rw [← k1]
        congr 1
        rw [← Array.foldl_toList, Array.toList_zipIdx, foldl_putA]
        rfl
      · cases hf

/-- The parts of a literal. -/
def evalParts (σ : St) : List (Nat × Operand) → List (Nat × V)
  | [] => []
  | (i, x) :: xs => (i, evalV σ x) :: evalParts σ xs

theorem evalParts_eq (σ : St) : ∀ xs : List (Nat × Operand), evalParts σ xs = xs.map fun x => (x.1, evalV σ x.2)
  | [] => rfl
  | (i, x) :: xs => by simp [evalParts, evalParts_eq σ xs]

theorem parts_rep {X : Ctx} {T : Tab} {a : Act} {w : World} (h : HoldsT ρ X T σ a w) (parts : Array (Nat × Operand)) :
    (evalParts σ parts.toList).length = (parts.map fun x => (x.1, a.eval x.2)).toList.length ∧
    ∀ (j : Nat) (p : Nat × V) (x : Nat × Value), (evalParts σ parts.toList)[j]? = some p → (parts.map fun x => (x.1, a.eval x.2)).toList[j]? = some x → p.1 = x.1 ∧ Rep ρ w (Live X.A T σ.objs) T p.2 x.2 := by
  refine ⟨by simp [evalParts_eq], fun j p x hp hx => ?_⟩
  rw [evalParts_eq, List.getElem?_map] at hp
  simp only [Option.map_eq_some_iff] at hp
  obtain ⟨y, hy, rfl⟩ := hp
  rw [Array.toList_map, List.getElem?_map, hy] at hx
  cases hx
  exact ⟨rfl, eval_rep h _⟩

theorem zero_repL {w : World} {L : Nat → Prop} {T : Tab} (z : Array Value) : RepL ρ w L T (z.toList.map cv) z := by
  refine ⟨by simp, fun i q hq => ?_⟩
  rw [List.getElem?_map] at hq
  simp only [Option.map_eq_some_iff] at hq
  obtain ⟨v, hv, rfl⟩ := hq
  exact ⟨v, by simpa using hv, rep_cv _ _ _ v⟩

def placeOf (fs : List (Nat × Nat × Bool)) (i : Nat) : Option (Nat × Nat) := match fs[i]? with
  | some (off, size, _) => some (off, size)
  | none => none

theorem fields_places {t : TypeId} {ti : TI} (ht : TyOK P t ti) {fs : List (Nat × Nat × Bool)} (hs : ti.sh = .struct fs) :
    ∃ F : Array Field, P.underlying t = some (.struct F) ∧
      ∀ w, (F.mapM fun (f : Field) => do pure (f.offset, ← sizeOf f.type)).run P w = .ok (fs.map fun x => (x.1, x.2.1)).toArray w := by
  have h1 := ht.sh
  unfold shOf at h1
  rw [hs] at h1
  obtain ⟨F, hF, _⟩ := struct_of ht hs
  rw [hF] at h1
  simp only [Option.map_eq_some_iff] at h1
  obtain ⟨l, hl, hle⟩ := h1
  injection hle with hle
  subst hle
  refine ⟨F, hF, fun w => ?_⟩
  have key : ∀ (L : List Field) (l : List (Nat × Nat × Bool)), L.mapM (fieldSh P) = some l → (L.mapM fun (f : Field) => do pure (f.offset, ← sizeOf f.type)).run P w = .ok (l.map fun x => (x.1, x.2.1)) w := by
    intro L
    induction L with
    | nil => intro l hl; simp at hl; subst hl; simp
    | cons f L ih =>
      intro l hl
      rw [List.mapM_cons] at hl
      simp only [Option.pure_def, Option.bind_eq_bind, Option.bind_eq_some_iff] at hl
      obtain ⟨y, hy, l', hl', hle⟩ := hl
      injection hle with hle
      subst hle
      have h2 := ih l' hl'
      unfold fieldSh at hy
      split at hy
      · rename_i j d hj hd
        injection hy with hy
        subst hy
        rw [List.mapM_cons]
        simp [Go.sizeOf, typeInfo, hj] at h2 ⊢
        rw [h2]
        rfl
      · cases hy
  have h2 := key F.toList l hl
  rw [← Array.toList_mapM] at h2
  simp only [Sem.run_map] at h2
  cases hr : (F.mapM fun (f : Field) => do pure (f.offset, ← sizeOf f.type) : Sem (Array (Nat × Nat))).run P w with
  | ok v w' =>
    rw [hr] at h2
    simp at h2
    obtain ⟨e1, e2⟩ := h2
    subst e2
    rw [← e1]
  | halt x w' => rw [hr] at h2; simp at h2

theorem placeOf_eq (fs : List (Nat × Nat × Bool)) : placeOf fs = fun i => ((fs.map fun x => (x.1, x.2.1)).toArray)[i]? := by
  funext i
  unfold placeOf
  simp
  cases fs[i]? with
  | none => rfl
  | some p => rfl

theorem qq_build {C : CellP} {o : Oper} {t : TypeId} {ti : TI} {fs : List (Nat × Nat × Bool)} {parts : Array (Nat × Operand)} {row : List V} (ho : o.op = .build t parts)
    (ht : TyOK P t ti) (hs : ti.sh = .struct fs) (hf : fillV (placeOf fs) (ti.zero.map cv) (evalParts σ parts.toList) = some row) : QQ ρ P σ C o (.agg row) := by
  intro X T a w h
  obtain ⟨z, hz1, hz2⟩ := ht.zeroValue
  obtain ⟨F, hF, hpl⟩ := fields_places ht hs
  obtain ⟨h1, h2⟩ := parts_rep h parts
  have hz0 : RepL ρ w (Live X.A T σ.objs) T (ti.zero.map cv) z.cells := by rw [← hz1]; exact zero_repL _
  obtain ⟨cs, h3, h4⟩ := fill_sound _ _ _ row z.cells hz0 h1 h2 hf
  rw [placeOf_eq] at h3
  refine ⟨.agg cs, .agg row cs h4.1 (fun i q hq => by
    obtain ⟨x, h5, h6⟩ := h4.2 i q hq
    rw [getD_of h5]
    exact h6), fun w' _ _ => ?_⟩
  have hp := hpl w'
  simp only [execOp, ho, Instr.build, Sem.run_bind, hz2, Result.andThen, run_underlying hF, hp, h3, Sem.run_pure]

theorem flatten_at {rows : List (List V)} {s : Nat} (hrows : ∀ row ∈ rows, row.length = s) {r : Nat} {row : List V} (hr : rows[r]? = some row) {c : Nat} {q : V} (hq : row[c]? = some q) : rows.flatten[r * s + c]? = some q := by
  induction rows generalizing r with
  | nil => simp at hr
  | cons x rows ih =>
    have hx : x.length = s := hrows x (by simp)
    cases r with
    | zero =>
      simp at hr
      subst hr
      rw [List.flatten_cons, Nat.zero_mul, Nat.zero_add, List.getElem?_append_left (lt_of_get hq)]
      exact hq
    | succ r =>
      simp at hr
      rw [List.flatten_cons, List.getElem?_append_right (by rw [hx, Nat.add_mul]; omega), hx, show (r + 1) * s + c - s = r * s + c by rw [Nat.add_mul]; omega]
      exact ih (fun row h => hrows row (by simp [h])) hr

/-- Parts of a slice's literal that stand for whole rows, one behind the other from row n on. -/
def rowsP (es : Nat) : Nat → List (Nat × V) → Option (List (List V))
  | _, [] => some []
  | n, (i, q) :: rest => match Nat.beq i n, Nat.beq (cellsV q).length es, (cellsV q).all V.one with
    | true, true, true => match rowsP es (n + 1) rest with
      | some l => some (cellsV q :: l)
      | none => none
    | _, _, _ => none

theorem fill_rows {w : World} {L : Nat → Prop} {T : Tab} {es : Nat} (hes : 0 < es) : ∀ (parts : List (Nat × V)) (vs : List (Nat × Value)) (n : Nat) (rows : List (List V)) (cs : Array Value),
    parts.length = vs.length → (∀ (j : Nat) (p : Nat × V) (x : Nat × Value), parts[j]? = some p → vs[j]? = some x → p.1 = x.1 ∧ Rep ρ w L T p.2 x.2) → rowsP es n parts = some rows → (n + parts.length) * es ≤ cs.size →
    ∃ cs', Instr.fill (fun i => some (i * es, es)) cs vs = some cs' ∧ cs'.size = cs.size ∧ rows.length = parts.length ∧ (∀ j, j < n * es → cs'[j]? = cs[j]?) ∧
      ∀ (r : Nat) (row : List V), rows[r]? = some row → row.length = es ∧ (∀ q ∈ row, q.one = true) ∧ ∀ (c : Nat) (q : V), row[c]? = some q → ∃ v, cs'[(n + r) * es + c]? = some v ∧ Rep ρ w L T q v
  | [], vs, n, rows, cs, hl, _, hf, _ => by
    have : vs = [] := by cases vs with | nil => rfl | cons _ _ => simp at hl
    subst this
    cases hf
    exact ⟨cs, rfl, rfl, rfl, fun _ _ => rfl, fun r row hr => by simp at hr⟩
  | (i, q) :: parts, vs, n, rows, cs, hl, hr, hf, hsz => by
    obtain ⟨⟨i', v⟩, vs, rfl⟩ : ∃ v vs', vs = v :: vs' := by cases vs with | nil => simp at hl | cons v vs => exact ⟨v, vs, rfl⟩
    obtain ⟨e, hq⟩ := hr 0 (i, q) (i', v) rfl rfl
    simp only at e hq
    subst e
    unfold rowsP at hf
    split at hf
    · rename_i h1 h2 h3
      split at hf
      · rename_i l hl2
        cases hf
        have h1 := Nat.eq_of_beq_eq_true h1
        have h2 := Nat.eq_of_beq_eq_true h2
        subst h1
        obtain ⟨g1, g2⟩ := cellsV_rep hq h3
        have hvl : v.cells.toList.length = es := by have : v.cells.toList.length = (cellsV q).length := by simpa using g1
                                                    omega
        simp only [List.length_cons] at hsz hl
        have hsz' : i * es + es ≤ cs.size := by
          have : (i + 1) * es ≤ (i + (parts.length + 1)) * es := Nat.mul_le_mul_right _ (by omega)
          rw [Nat.add_mul, Nat.one_mul] at this
          omega
        obtain ⟨cs', k1, k2, k3, k4, k5⟩ := fill_rows hes parts vs (i + 1) l (putA cs (i * es) v.cells.toList) (by omega) (fun j p x hp hx => hr (j + 1) p x (by simpa using hp) (by simpa using hx)) hl2
          (by rw [putA_size, show i + 1 + parts.length = i + (parts.length + 1) by omega]; exact hsz)
        rw [putA_size] at k2
        have hget := fun j => putA_get v.cells.toList cs (i * es) j (by omega)
        rw [hvl] at hget
        refine ⟨cs', ?_, k2, by simp [k3], fun j hj => ?_, fun r row hrow => ?_⟩
        · unfold Instr.fill
          simp only
          rw [if_neg (by
            have : v.cells.size = es := by simpa using hvl
            simp [this]
            omega)]
          rw [← k1]
          congr 1
          rw [← Array.foldl_toList, Array.toList_zipIdx, foldl_putA]
          rfl
        · rw [k4 j (by rw [Nat.add_mul]; omega), hget, if_neg (by omega)]
        · cases r with
          | zero =>
            simp at hrow
            subst hrow
            refine ⟨h2, fun p hp => List.all_eq_true.mp h3 p hp, fun c p hp => ?_⟩
            obtain ⟨x, f1, f2⟩ := g2 c p hp
            have hcl := lt_of_get hp
            refine ⟨x, ?_, f2⟩
            rw [Nat.add_zero, k4 _ (by rw [Nat.add_mul]; omega), hget, if_pos (by omega), Nat.add_sub_cancel_left]
            simpa using f1
          | succ r =>
            simp at hrow
            obtain ⟨f1, f2, f3⟩ := k5 r row hrow
            exact ⟨f1, f2, fun c p hp => by rw [show i + (r + 1) = i + 1 + r by omega]; exact f3 c p hp⟩
      · cases hf
    · cases hf

def rowsOb (es : Nat) (rows : List (List V)) : Ob := ⟨es, fun r => rows[r]?⟩

/-- A literal of a slice: all rows are told. -/
theorem qo_buildSlice {C : CellP} {o : Oper} {t : TypeId} {e es eb n : Nat} {parts : Array (Nat × Operand)} {rows : List (List V)} {N : St → Prop} (ho : o.op = .buildSlice t n parts)
    (hel : ElOK P t e es eb) (hes : 0 < es) (hbig : n * es ≤ 16777216) (hn : rows.length = n)
    (hf : rowsP es 0 (evalParts σ parts.toList) = some rows) (hd : dstOK o σ)
    (h : N (({ σ with objs := Objs.put σ.objs σ.next (some (rowsOb es rows)), next := σ.next + 1 } : St).put o.dst (.sl σ.next 0 n true))) : QO ρ P C o σ N K := by
  obtain ⟨hu, i, z, hi, h1, h2, hz, hzs⟩ := hel
  subst h1
  refine qo_new hd ?_ h
  intro X T a w hh
  obtain ⟨g1, g2⟩ := parts_rep hh parts
  by_cases hne0 : n * i.size = 0
  · have hn0 : n = 0 := by rcases Nat.mul_eq_zero.mp hne0 with g | g <;> omega
    subst hn0
    have hrows : rows = [] := List.eq_nil_of_length_eq_zero hn
    subst hrows
    obtain ⟨cs, k1, k2, k3, k4, k5⟩ := fill_rows (ρ := ρ) (w := w) (L := Live X.A T σ.objs) (T := T) hes (evalParts σ parts.toList) _ 0 [] ((Array.range (0 * i.size)).map (fun j => (#[] : Array Value)[j % (#[] : Array Value).size]!)) g1 g2 hf (by
      have : (evalParts σ parts.toList) = [] := by
        cases hp : evalParts σ parts.toList with
        | nil => rfl
        | cons p l =>
          rw [hp] at hf
          obtain ⟨a1, a2⟩ := p
          unfold rowsP at hf
          split at hf
          · split at hf
            · cases hf
            · cases hf
          · cases hf
      rw [this]
      simp)
    refine ⟨cs, e, .slice (some ⟨w.heap.size, 0, none⟩) 0 0, w, rfl, rfl, rfl, rfl, ?_, fun r row hr => by simp [rowsOb] at hr, fun T' w' L hT hb => ?_⟩
    · have h16 : ¬ (0 * i.size > 2 ^ 24) := by omega
      simp only [execOp, ho, Instr.buildSlice, Sem.run_bind, Result.andThen, run_underlying hu, Go.sizeOf, typeInfo, run_program, hi, Sem.run_pure, Sem.run_ite, h16, if_false, Nat.zero_mul, if_true, k1, newRow, run_newObj]
      rw [Nat.zero_mul] at k1
      rw [k1]
      rfl
    · exact .sl σ.next 0 0 true ⟨w.heap.size, 0, i.size⟩ 0 0 hT (.inl rfl) (Nat.le_refl _) (fun _ => rfl) ⟨_, _, _, hb, by simp⟩
  · have hpl : (evalParts σ parts.toList).length = n := by
      have : ∀ (l : List (Nat × V)) (m : Nat) (rows : List (List V)), rowsP i.size m l = some rows → rows.length = l.length := by
        intro l
        induction l with
        | nil => intro m rows h; cases h; rfl
        | cons p l ih =>
          intro m rows h
          obtain ⟨a1, a2⟩ := p
          unfold rowsP at h
          split at h
          · split at h
            · rename_i l' hl'
              cases h
              simp [ih _ _ hl']
            · cases h
          · cases h
      rw [← this _ _ _ hf, hn]
    obtain ⟨cs, k1, k2, k3, k4, k5⟩ := fill_rows (ρ := ρ) (w := w) (L := Live X.A T σ.objs) (T := T) hes (evalParts σ parts.toList) _ 0 rows ((Array.range (n * i.size)).map (fun j => z.cells[j % z.cells.size]!)) g1 g2 hf (by simp [hpl])
    refine ⟨cs, e, .slice (some ⟨w.heap.size, 0, none⟩) n n, w, rfl, rfl, rfl, rfl, ?_, fun r row hr => ?_, fun T' w' L hT hb => ?_⟩
    · have h16 : ¬ (n * i.size > 2 ^ 24) := by omega
      simp only [execOp, ho, Instr.buildSlice, Sem.run_bind, Result.andThen, run_underlying hu, Go.sizeOf, typeInfo, run_program, hi, Sem.run_pure, Sem.run_ite, h16, if_false, hne0, Go.zeroValue, hz, k1, newRow, run_newObj]
      rfl
    · obtain ⟨f1, f2, f3⟩ := k5 r row hr
      exact ⟨f1, f2, fun c q hq => by have := f3 c q hq; rw [Nat.zero_add] at this; exact this⟩
    · exact .sl σ.next 0 n true ⟨w.heap.size, 0, i.size⟩ 0 n hT (.inr (by simp)) (Nat.le_refl _) (fun _ => rfl) ⟨_, _, _, hb, by rw [k2]; simp⟩

/-- Rows of noughts. -/
def zeroOb (es n : Nat) (z : List V) : Ob := ⟨es, fun r => if r < n then some z else none⟩

theorem zero_cells (z : Array Value) (es m n : Nat) (hz : z.size = es) (hes : 0 < es) (hnm : n ≤ m) {w : World} {L : Nat → Prop} {T : Tab} (hone : (z.toList.map cv).all V.one = true) (r : Nat) (row : List V) (hr : (zeroOb es n (z.toList.map cv)).row r = some row) :
    row.length = es ∧ (∀ q ∈ row, q.one = true) ∧ ∀ (c : Nat) (q : V), row[c]? = some q → ∃ v, ((Array.range (m * es)).map (fun j => z[j % z.size]!))[r * es + c]? = some v ∧ Rep ρ w L T q v := by
  simp only [zeroOb] at hr
  split at hr
  · rename_i hrn
    cases hr
    refine ⟨by simpa using hz, fun q hq => List.all_eq_true.mp hone q hq, fun c q hq => ?_⟩
    rw [List.getElem?_map] at hq
    simp only [Option.map_eq_some_iff] at hq
    obtain ⟨v, hv, rfl⟩ := hq
    have hc : c < z.size := by have := lt_of_get hv; simpa using this
    have hj : r * es + c < m * es := by
      have : r * es + es ≤ m * es := by rw [← Nat.succ_mul]; exact Nat.mul_le_mul_right _ (by omega)
      omega
    refine ⟨v, ?_, rep_cv _ _ _ v⟩
    have : ((Array.range (m * es)).map (fun j => z[j % z.size]!))[r * es + c]? = some (z[(r * es + c) % z.size]!) := by
      rw [Array.getElem?_map, Array.getElem?_eq_getElem (by simpa using hj), Array.getElem_range]
      rfl
    rw [this]
    have e3 : (r * es + c) % z.size = c := by rw [hz, Nat.mul_comm, Nat.mul_add_mod]; exact Nat.mod_eq_of_lt (by omega)
    rw [e3, getElem!_pos z c hc]
    have h5 : z.toList[c]? = some v := hv
    rw [List.getElem?_eq_getElem (by simpa using hc)] at h5
    simpa using h5
  · cases hr

theorem run_make {o : Oper} {t : TypeId} {x y : Operand} {e es eb n : Nat} {k k' : IntKind} {i : TypeInfo} {z : Value} (ho : o.op = .makeSlice t x y) (hu : P.underlying t = some (.slice e)) (hi : P.info? e = some i) (hz : i.zero = some z)
    (h63 : n ≤ 9223372036854775807) (h48 : i.bytes * n ≤ 281474976710656) (a : Act) (w : World) (e1 : a.eval x = .int k n) (e2 : a.eval y = .int k' n) (hes : 0 < i.size) (hzs : z.cells.size = i.size) :
    (execOp a.eval o).run P w = .ok (.value (.slice (some ⟨w.heap.size, 0, none⟩) n n)) (more w (.cells ((Array.range (n * i.size)).map (fun j => z.cells[j % z.cells.size]!)) e (0, 0))) := by
  have w1 : IntKind.i64.wrap (n : Int) = n := IntWalk.i64_in _ (by omega)
  have c1 : ¬ ((n : Int) < 0) := by omega
  have c2 : ¬ ((i.bytes : Int) * (n : Int) > 2 ^ 48) := by
    have h9 : ((i.bytes * n : Nat) : Int) ≤ 281474976710656 := Int.ofNat_le.mpr h48
    rw [Int.natCast_mul] at h9
    intro h10
    have h11 : (2 : Int) ^ 48 = 281474976710656 := by decide
    omega
  have c4 : ¬ ((n : Int) > (n : Int)) := by omega
  by_cases hne : n * i.size = 0
  · have hn0 : n = 0 := by rcases Nat.mul_eq_zero.mp hne with g | g <;> omega
    subst hn0
    simp only [execOp, ho, Instr.makeSlice, Sem.run_bind, Result.andThen, run_underlying hu, e1, e2, asInt, asIntOf, Sem.run_pure, typeInfo, run_program, hi, w1, c1, c2, c4, decide_false, Bool.or_self, Bool.false_eq_true,
      if_false, run_askRoom, Go.sizeOf, Int.toNat_natCast, Sem.run_ite, Nat.zero_mul, if_true, newRow, run_newObj]
    have e0 : ∀ f : Nat → Value, Array.map f (Array.range 0) = #[] := fun f => by simp [Array.range]
    rw [e0, e0]
    rfl
  · simp only [execOp, ho, Instr.makeSlice, Sem.run_bind, Result.andThen, run_underlying hu, e1, e2, asInt, asIntOf, Sem.run_pure, typeInfo, run_program, hi, w1, c1, c2, c4, decide_false, Bool.or_self, Bool.false_eq_true,
      if_false, run_askRoom, Go.sizeOf, Int.toNat_natCast, Sem.run_ite, hne, Go.zeroValue, hz, newRow, run_newObj]
    rfl

/-- make of a slice, without room behind it. -/
theorem qo_makeSlice {C : CellP} {o : Oper} {t : TypeId} {x y : Operand} {e es eb n : Nat} {k k' : IntKind} {te : TI} {l : List V} {N : St → Prop} (ho : o.op = .makeSlice t x y)
    (hx : evalV σ x = .int k (.ofNat n)) (hy : evalV σ y = .int k' (.ofNat n)) (hel : ElOK P t e es eb) (he : TyOK P e te) (hes : 0 < es) (h63 : n ≤ 9223372036854775807)
    (h48 : eb * n ≤ 281474976710656) (hl : te.zero.map cv = l) (hone : l.all V.one = true) (hd : dstOK o σ)
    (h : N (({ σ with objs := Objs.put σ.objs σ.next (some (zeroOb es n l)), next := σ.next + 1 } : St).put o.dst (.sl σ.next 0 n true))) : QO ρ P C o σ N K := by
  obtain ⟨hu, i, z, hi, h1, h2, hz, hzs⟩ := hel
  subst h1 h2 hl
  refine qo_new hd ?_ h
  intro X T a w hh
  have e1 := rep_int (ev_rep hh hx)
  have e2 := rep_int (ev_rep hh hy)
  have hzz : z.cells.toList = te.zero := by
    have := he.zero
    rw [hi, Option.map_some, hz] at this
    simpa using this
  rw [← hzz] at hone ⊢
  refine ⟨_, e, _, w, rfl, rfl, rfl, rfl, run_make (eb := i.bytes) (es := i.size) ho hu hi hz h63 h48 a w e1 e2 hes hzs, fun r row hr => zero_cells z.cells i.size n n hzs hes (Nat.le_refl _) hone r row hr, fun T' w' L hT hb => ?_⟩
  exact .sl σ.next 0 n true ⟨w.heap.size, 0, i.size⟩ 0 n hT (.inr (by simp [zeroOb])) (Nat.le_refl _) (fun _ => rfl) ⟨_, _, _, hb, by simp⟩

end Go.Proofs.YtjljgldgkkfckaaDoor.M
