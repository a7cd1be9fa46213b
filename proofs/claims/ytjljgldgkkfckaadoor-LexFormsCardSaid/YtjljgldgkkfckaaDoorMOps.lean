/- States, what is known of types, and what only looks. -/
import Derived.Test.YtjljgldgkkfckaaDoorMBase
import Derived.Laws.Cells
namespace Go.Proofs.YtjljgldgkkfckaaDoor.M
open Go Go.RowKit
set_option linter.unusedSimpArgs false
set_option linter.unusedVariables false

variable {ρ : Nat → Value}

/-- Cells of objects: object, row, cell. -/
@[reducible] def CellP : Type := Nat → Nat → Nat → Prop

/-- What is known of a frame: slots by content, objects, the number of the next one, which cells may not be written, what is to be done at the end. -/
structure St where
  n : Nat
  tmps : Nat → V
  objs : Objs
  next : Nat
  defs : List V
  forb : CellP
  ks : Nat → Bool

def St.put (σ : St) (d : Option Tmp) (v : V) : St := match d with
  | some t => { σ with tmps := fun u => if u = t then v else σ.tmps u }
  | none => σ

/-- Where a call began: the world, where its objects lay, which of them may not be written; which slots outlive a panic. -/
structure Ctx where
  w0 : World
  A : Nat → Prop
  T0 : Tab
  objs0 : Objs
  forb : CellP
  ks : Nat → Bool

def Ctx.M (X : Ctx) (b : Nat) : Prop := LiveO X.T0 X.objs0 b

/-- Cells that are as they were. -/
def SameC (T : Tab) (objs : Objs) (C : CellP) (w w' : World) : Prop :=
  ∀ (k r c : Nat) (p : Pl), C k r c → objs k ≠ none → T k = some p → c < p.s → w'.cell? ⟨p.b, p.o + (r * p.s + c), none⟩ = w.cell? ⟨p.b, p.o + (r * p.s + c), none⟩

theorem SameC.refl (T : Tab) (objs : Objs) (C : CellP) (w : World) : SameC T objs C w w := fun _ _ _ _ _ _ _ _ => rfl

theorem SameC.of_blocks {T : Tab} {objs : Objs} {C : CellP} {w w' : World} (hl : ∀ (k : Nat) (p : Pl), T k = some p → p.b < w.heap.size) (h : ∀ b, b < w.heap.size → w'.heap[b]? = w.heap[b]?) : SameC T objs C w w' :=
  fun k r c p _ _ hT _ => cell_of_heap (w := w) (w' := w') (h _ (hl k p hT))

theorem SameC.mono {T : Tab} {objs : Objs} {C C' : CellP} {w w' : World} (h : SameC T objs C' w w') (hC : ∀ k r c, C k r c → C' k r c) : SameC T objs C w w' :=
  fun k r c p h1 h2 h3 h4 => h k r c p (hC _ _ _ h1) h2 h3 h4

theorem SameC.trans' {T T' : Tab} {objs objs' : Objs} {C C' : CellP} {w0 w w' : World} (h : SameC T objs C w0 w) (hC : ∀ k r c, C k r c → C' k r c) (hs : ∀ k r c, C k r c → objs k ≠ none → objs' k ≠ none) (hT : ∀ (k : Nat) (p : Pl), T k = some p → T' k = some p) (h' : SameC T' objs' C' w w') : SameC T objs C w0 w' :=
  fun k r c p h1 h2 h3 h4 => (h' k r c p (hC _ _ _ h1) (hs _ _ _ h1 h2) (hT _ _ h3) h4).trans (h k r c p h1 h2 h3 h4)

/-- What is called at the end: closures without arguments. -/
def RepDefs (ρ : Nat → Value) (w : World) (L : Nat → Prop) (T : Tab) : List V → List Deferred → Prop
  | [], [] => True
  | q :: l, d :: ds => (∃ f caps vs, q = .fn f caps ∧ d = ⟨.fn (.func f) vs, #[]⟩ ∧ Rep ρ w L T q (.func (.func f) #[] vs)) ∧ RepDefs ρ w L T l ds
  | _, _ => False

structure HoldsT (ρ : Nat → Value) (X : Ctx) (T : Tab) (σ : St) (a : Act) (w : World) : Prop where
  pre : ∀ (k : Nat) (p : Pl), X.T0 k = some p → T k = some p
  mem : HoldsM ρ w X.A T σ.objs
  top : ∀ k, σ.next ≤ k → T k = none ∧ σ.objs k = none
  tmp : ∀ (t : Nat), Rep ρ w (Live X.A T σ.objs) T (σ.tmps t) (a.tmps.getD t undef)
  size : a.tmps.size = σ.n
  defers : RepDefs ρ w (Live X.A T σ.objs) T σ.defs a.defers
  keep : Keep X.M X.w0 w
  fresh : ∀ (k : Nat) (p : Pl), X.T0 k = none → T k = some p → X.w0.heap.size ≤ p.b ∨ X.M p.b
  old : ∀ k, X.T0 k ≠ none → σ.objs k ≠ none → X.objs0 k ≠ none
  stay : ∀ k r c, X.forb k r c → X.objs0 k ≠ none → σ.objs k ≠ none
  pc : SameC X.T0 X.objs0 X.forb X.w0 w
  hforb : X.forb = σ.forb
  hks : X.ks = σ.ks

def evalV (σ : St) : Operand → V
  | .tmp t => σ.tmps t
  | .const v => cv v
  | .global g => match gdat g with
    | some vs => .pro (vs.map cv)
    | none => .sc (.pointer (some ⟨g, 0, none⟩))
  | .func f => .fn f []

theorem eval_rep {X : Ctx} {T : Tab} {σ : St} {a : Act} {w : World} (h : HoldsT ρ X T σ a w) (x : Operand) :
    Rep ρ w (Live X.A T σ.objs) T (evalV σ x) (a.eval x) := by
  cases x with
  | tmp t => exact h.tmp t
  | const c => exact rep_cv _ _ _ c
  | global g =>
    show Rep ρ w _ T (match gdat g with | some vs => .pro (vs.map cv) | none => .sc (.pointer (some ⟨g, 0, none⟩))) (.pointer (some ⟨g, 0, none⟩))
    split
    · rename_i vs hg
      exact .pure (h.mem.glob.rep hg)
    · exact .pure (.sc _)
  | func f => exact .fn _ [] #[] rfl (fun i q hq => by simp at hq)

def Stab (N : Nat → Prop) (w w' : World) : Prop := w.heap.size ≤ w'.heap.size ∧ ∀ b, b < w.heap.size → ¬ N b → w'.heap[b]? = w.heap[b]?

theorem Stab.refl (N : Nat → Prop) (w : World) : Stab N w w := ⟨Nat.le_refl _, fun _ _ _ => rfl⟩

/-- An operation that only looks yields v, and goes on doing so while no cell of C is written. -/
def QQ (ρ : Nat → Value) (P : Program) (σ : St) (C : CellP) (o : Oper) (v : V) : Prop :=
  ∀ (X : Ctx) (T : Tab) (a : Act) (w : World), HoldsT ρ X T σ a w → ∃ x, Rep ρ w (Live X.A T σ.objs) T v x ∧
    ∀ w', Stab (Live X.A T σ.objs) w w' → SameC T σ.objs C w w' → (execOp a.eval o).run P w' = .ok (.value x) w'

/-! ### What is known of types -/

inductive Sh where
  | struct (fs : List (Nat × Nat × Bool))
  | slice (e es eb : Nat)
  | string
  | int (k : IntKind)
  | bool
  | other

structure TI where
  size : Nat
  sh : Sh
  zero : List Value

def isAggD : TypeDesc → Bool
  | .struct _ | .array _ _ => true
  | _ => false

def fieldSh (P : Program) (f : Field) : Option (Nat × Nat × Bool) :=
  match P.info? f.type, P.underlying f.type with
  | some i, some d => some (f.offset, i.size, isAggD d)
  | _, _ => none

def shOf (P : Program) (t : TypeId) : Option Sh :=
  match P.underlying t with
  | some (.struct F) => (F.toList.mapM (fieldSh P)).map .struct
  | some (.slice e) => (P.info? e).map fun i => .slice e i.size i.bytes
  | some .string => some .string
  | some (.int k) => some (.int k)
  | some .bool => some .bool
  | some (.array _ _) => none
  | some _ => some .other
  | none => none

structure TyOK (P : Program) (t : TypeId) (ti : TI) : Prop where
  sh : shOf P t = some ti.sh
  size : (P.info? t).map (·.size) = some ti.size
  zero : (P.info? t).map (fun i => i.zero.map fun z => z.cells.toList) = some (some ti.zero)

theorem TyOK.info {P : Program} {t : TypeId} {ti : TI} (h : TyOK P t ti) : ∃ i, P.info? t = some i ∧ i.size = ti.size := by
  have := h.size
  cases hi : P.info? t with
  | none => rw [hi] at this; simp at this
  | some i => rw [hi] at this; exact ⟨i, rfl, by simpa using this⟩

theorem TyOK.sizeOf {P : Program} {t : TypeId} {ti : TI} (h : TyOK P t ti) (w : World) : (sizeOf t).run P w = .ok ti.size w := by
  obtain ⟨i, hi, hs⟩ := h.info
  simp [Go.sizeOf, typeInfo, hi, hs]

theorem TyOK.zeroValue {P : Program} {t : TypeId} {ti : TI} (h : TyOK P t ti) : ∃ z : Value, z.cells.toList = ti.zero ∧ ∀ w, (zeroValue t).run P w = .ok z w := by
  have := h.zero
  cases hi : P.info? t with
  | none => rw [hi] at this; simp at this
  | some i =>
    rw [hi] at this
    cases hz : i.zero with
    | none => simp [hz] at this
    | some z => exact ⟨z, by simpa [hz] using this, fun w => by simp [Go.zeroValue, typeInfo, hi, hz]⟩

/-- The fields of a struct, one by one. -/
theorem struct_of {P : Program} {t : TypeId} {ti : TI} (h : TyOK P t ti) {fs : List (Nat × Nat × Bool)} (hs : ti.sh = .struct fs) :
    ∃ F : Array Field, P.underlying t = some (.struct F) ∧ ∀ (i off size : Nat) (g : Bool), fs[i]? = some (off, size, g) →
      ∃ f j d, F[i]? = some f ∧ f.offset = off ∧ P.info? f.type = some j ∧ j.size = size ∧ P.underlying f.type = some d ∧ isAggD d = g := by
  have h1 := h.sh
  unfold shOf at h1
  rw [hs] at h1
  cases hu : P.underlying t with
  | none => rw [hu] at h1; simp at h1
  | some d =>
    rw [hu] at h1
    cases d with
    | struct F =>
      refine ⟨F, rfl, fun i off size g hi => ?_⟩
      simp only [Option.map_eq_some_iff] at h1
      obtain ⟨l, hl, hle⟩ := h1
      injection hle with hle
      subst hle
      have key : ∀ (L : List Field) (l : List (Nat × Nat × Bool)), L.mapM (fieldSh P) = some l → ∀ (i off size : Nat) (g : Bool), l[i]? = some (off, size, g) →
          ∃ f j d, L[i]? = some f ∧ f.offset = off ∧ P.info? f.type = some j ∧ j.size = size ∧ P.underlying f.type = some d ∧ isAggD d = g := by
        intro L
        induction L with
        | nil => intro l hl i off size g hi; simp at hl; subst hl; simp at hi
        | cons f L ih =>
          intro l hl i off size g hi
          rw [List.mapM_cons] at hl
          simp only [Option.pure_def, Option.bind_eq_bind, Option.bind_eq_some_iff] at hl
          obtain ⟨y, hy, l', hl', hle⟩ := hl
          injection hle with hle
          subst hle
          cases i with
          | zero =>
            simp at hi
            subst hi
            unfold fieldSh at hy
            split at hy
            · rename_i j d hj hd
              injection hy with hy
              injection hy with e1 e2
              injection e2 with e2 e3
              exact ⟨f, j, d, rfl, e1, hj, e2, hd, e3⟩
            · cases hy
          | succ i =>
            simp at hi
            obtain ⟨f', j', d', h1, h2⟩ := ih l' hl' i off size g hi
            exact ⟨f', j', d', by simpa using h1, h2⟩
      obtain ⟨f, j, d, h1, h2⟩ := key F.toList l hl i off size g hi
      exact ⟨f, j, d, by simpa using h1, h2⟩
    | slice e => simp at h1
    | invalid => simp at h1
    | bool => simp at h1
    | int k => simp at h1
    | float k => simp at h1
    | complex k => simp at h1
    | string => simp at h1
    | unsafePointer => simp at h1
    | pointer e => simp at h1
    | array n e => simp at h1
    | map k e => simp at h1
    | chan d e => simp at h1
    | func a b c => simp at h1
    | interface m => simp at h1
    | tuple e => simp at h1
    | named a b => simp at h1

theorem slice_of {P : Program} {t : TypeId} {ti : TI} (h : TyOK P t ti) {e es eb : Nat} (hs : ti.sh = .slice e es eb) :
    P.underlying t = some (.slice e) ∧ ∃ i, P.info? e = some i ∧ i.size = es ∧ i.bytes = eb := by
  have h1 := h.sh
  unfold shOf at h1
  rw [hs] at h1
  cases hu : P.underlying t with
  | none => rw [hu] at h1; simp at h1
  | some d =>
    rw [hu] at h1
    cases d with
    | slice e' =>
      simp only [Option.map_eq_some_iff] at h1
      obtain ⟨i, hi, he⟩ := h1
      injection he with a b c
      subst a
      exact ⟨rfl, i, hi, b, c⟩
    | struct F => simp only [Option.map_eq_some_iff] at h1; obtain ⟨l, _, he⟩ := h1; cases he
    | invalid => simp at h1
    | bool => simp at h1
    | int k => simp at h1
    | float k => simp at h1
    | complex k => simp at h1
    | string => simp at h1
    | unsafePointer => simp at h1
    | pointer e => simp at h1
    | array n e => simp at h1
    | map k e => simp at h1
    | chan d e => simp at h1
    | func a b c => simp at h1
    | interface m => simp at h1
    | tuple e => simp at h1
    | named a b => simp at h1

def Sh.agg : Sh → Bool
  | .struct _ => true
  | _ => false

theorem TyOK.isAgg {P : Program} {t : TypeId} {ti : TI} (h : TyOK P t ti) (w : World) : (isAgg t).run P w = .ok ti.sh.agg w := by
  have h1 := h.sh
  unfold shOf at h1
  cases hu : P.underlying t with
  | none => rw [hu] at h1; simp at h1
  | some d =>
    rw [hu] at h1
    cases d <;> simp at h1 <;> simp [Go.isAgg, underlying, hu] <;>
      first
        | (rw [← h1]; rfl)
        | (obtain ⟨l, _, he⟩ := h1; rw [← he]; rfl)

/-! ### Small laws on addresses -/

theorem add_at (b o n : Nat) : (⟨b, o, none⟩ : Addr).add n = ⟨b, o + n, none⟩ := by
  unfold Addr.add
  split
  · rename_i h; subst h; rfl
  · rfl

theorem cell_stab {N : Nat → Prop} {w w' : World} (h : Stab N w w') {a : Addr} {v : Value} (hc : w.cell? a = some v) (hn : ¬ N a.block) : w'.cell? a = some v := by
  have hb : a.block < w.heap.size := World.block_lt_of_cell? w a hc
  rw [cell_of_heap (w := w) (h.2 _ hb hn)]
  exact hc

theorem getD_of {vs : Array Value} {i : Nat} {y d : Value} (h : vs[i]? = some y) : vs.getD i d = y := by
  rw [Array.getD_eq_getD_getElem?, h]; rfl

theorem lt_of_get {α : Type} {l : List α} {k : Nat} {x : α} (h : l[k]? = some x) : k < l.length := by
  rcases Nat.lt_or_ge k l.length with g | g
  · exact g
  · rw [List.getElem?_eq_none g] at h; cases h

def evalL (σ : St) : List Operand → List V
  | [] => []
  | x :: xs => evalV σ x :: evalL σ xs

theorem evalL_eq (σ : St) : ∀ xs : List Operand, evalL σ xs = xs.map (evalV σ)
  | [] => rfl
  | x :: xs => by simp [evalL, evalL_eq σ xs]

theorem string_of {P : Program} {t : TypeId} {ti : TI} (h : TyOK P t ti) (hs : ti.sh = .string) : P.underlying t = some .string := by
  have h1 := h.sh
  unfold shOf at h1
  rw [hs] at h1
  cases hu : P.underlying t with
  | none => rw [hu] at h1; simp at h1
  | some d => rw [hu] at h1; cases d <;> simp at h1 <;> rfl

theorem int_of {P : Program} {t : TypeId} {ti : TI} (h : TyOK P t ti) {k : IntKind} (hs : ti.sh = .int k) : P.underlying t = some (.int k) := by
  have h1 := h.sh
  unfold shOf at h1
  rw [hs] at h1
  cases hu : P.underlying t with
  | none => rw [hu] at h1; simp at h1
  | some d => rw [hu] at h1; cases d <;> simp at h1 <;> simp [h1]

theorem bool_of {P : Program} {t : TypeId} {ti : TI} (h : TyOK P t ti) (hs : ti.sh = .bool) : P.underlying t = some .bool := by
  have h1 := h.sh
  unfold shOf at h1
  rw [hs] at h1
  cases hu : P.underlying t with
  | none => rw [hu] at h1; simp at h1
  | some d => rw [hu] at h1; cases d <;> simp at h1 <;> rfl

end Go.Proofs.YtjljgldgkkfckaaDoor.M
