/- States of the logic, and the operations that only look: what they yield, by content. -/
import Derived.Test.YtohchoelhnipmaaQBase
import Derived.Laws.Cells
namespace Go.Proofs.Ytohchoelhnipmaa.Q
open Go Go.RowKit
set_option linter.unusedSimpArgs false
set_option linter.unusedVariables false

/-- What is known of a frame: slots by content, objects. -/
structure St where
  n : Nat
  tmps : List (Nat × V)
  objs : Objs
  /-- so many objects came in -/
  m : Nat
  /-- of these may be written -/
  mods : List Nat

def look : List (Nat × V) → Nat → Option V
  | [], _ => none
  | (k, v) :: r, t => match Nat.beq k t with
    | true => some v
    | false => look r t

def St.put (σ : St) (d : Option Tmp) (v : V) : St := match d with
  | some t => { σ with tmps := (t, v) :: σ.tmps }
  | none => σ

/-- A slot of which nothing is known any more. -/
def drop (t : Nat) : List (Nat × V) → List (Nat × V)
  | [] => []
  | (k, v) :: r => match Nat.beq k t with
    | true => drop t r
    | false => (k, v) :: drop t r

def St.lose (σ : St) (d : Option Tmp) : St := match d with
  | some t => { σ with tmps := drop t σ.tmps }
  | none => σ

/-- Where a call began: the world, the blocks to be let alone, where its objects lay, which of them it may write. -/
structure Ctx where
  w0 : World
  A : Nat → Prop
  T0 : Tab
  mods : List Nat

def Ctx.M (X : Ctx) (b : Nat) : Prop := ∃ (k s : Nat), k ∈ X.mods ∧ X.T0[k]? = some (b, s)

structure HoldsT (X : Ctx) (T : Tab) (σ : St) (a : Act) (w : World) : Prop where
  pre : ∀ (k : Nat) (p : Nat × Nat), X.T0[k]? = some p → T[k]? = some p
  mem : HoldsM w X.A T σ.objs
  tmp : ∀ (t : Nat) (v : V), look σ.tmps t = some v → Rep w (Live X.A T σ.objs) T v (a.tmps.getD t undef)
  size : a.tmps.size = σ.n
  defers : a.defers = []
  keep : Keep X.M X.w0 w
  fresh : ∀ (k b s : Nat), X.T0.length ≤ k → T[k]? = some (b, s) → X.w0.heap.size ≤ b ∨ X.M b
  avoid0 : ∀ b, X.A b → b < X.w0.heap.size
  hm : X.T0.length = σ.m
  hmods : X.mods = σ.mods

def evalV (σ : St) : Operand → Option V
  | .tmp t => look σ.tmps t
  | .const v => some (.sc v)
  | .global g => some (.sc (.pointer (some ⟨g, 0, none⟩)))
  | .func f => some (.fn (.func f) [])

theorem eval_rep {X : Ctx} {T : Tab} {σ : St} {a : Act} {w : World} (h : HoldsT X T σ a w) {x : Operand} {v : V} (hv : evalV σ x = some v) :
    Rep w (Live X.A T σ.objs) T v (a.eval x) := by
  cases x with
  | tmp t => exact h.tmp t v hv
  | const c => cases hv; exact .pure (.sc _)
  | global g => cases hv; exact .pure (.sc _)
  | func f => cases hv; exact .fn _ [] #[] rfl (fun i q hq => by simp at hq)

/-- What nobody writes meanwhile: all blocks but those of the objects rm. -/
def rmB (T : Tab) (objs : Objs) (rm : List Nat) (b : Nat) : Prop := ∃ (k : Nat) (ob : Ob) (s : Nat), k ∈ rm ∧ objs[k]? = some (some ob) ∧ T[k]? = some (b, s)

def Stab (N : Nat → Prop) (w w' : World) : Prop := w.heap.size ≤ w'.heap.size ∧ ∀ b, b < w.heap.size → ¬ N b → w'.heap[b]? = w.heap[b]?

theorem Stab.refl (N : Nat → Prop) (w : World) : Stab N w w := ⟨Nat.le_refl _, fun _ _ _ => rfl⟩

/-- An operation that only looks yields v, and goes on doing so while the objects rm alone are written. -/
def QQ (P : Program) (σ : St) (rm : List Nat) (o : Oper) (v : V) : Prop :=
  ∀ (X : Ctx) (T : Tab) (a : Act) (w : World), HoldsT X T σ a w → ∃ x, Rep w (Live X.A T σ.objs) T v x ∧
    ∀ w', Stab (rmB T σ.objs rm) w w' → (execOp a.eval o).run P w' = .ok (.value x) w'

/-! ### What is known of types -/

inductive Sh where
  | struct (fs : List (Nat × Nat × Bool))
  | slice (e es eb : Nat)
  | string
  | int (k : IntKind)
  | bool
  | other

structure TI where
  size : Nat
  sh : Sh
  zero : List Value

def isAggD : TypeDesc → Bool
  | .struct _ | .array _ _ => true
  | _ => false

def fieldSh (P : Program) (f : Field) : Option (Nat × Nat × Bool) :=
  match P.info? f.type, P.underlying f.type with
  | some i, some d => some (f.offset, i.size, isAggD d)
  | _, _ => none

def shOf (P : Program) (t : TypeId) : Option Sh :=
  match P.underlying t with
  | some (.struct F) => (F.toList.mapM (fieldSh P)).map .struct
  | some (.slice e) => (P.info? e).map fun i => .slice e i.size i.bytes
  | some .string => some .string
  | some (.int k) => some (.int k)
  | some .bool => some .bool
  | some (.array _ _) => none
  | some _ => some .other
  | none => none

structure TyOK (P : Program) (t : TypeId) (ti : TI) : Prop where
  sh : shOf P t = some ti.sh
  size : (P.info? t).map (·.size) = some ti.size
  zero : (P.info? t).map (fun i => i.zero.map fun z => z.cells.toList) = some (some ti.zero)

theorem TyOK.info {P : Program} {t : TypeId} {ti : TI} (h : TyOK P t ti) : ∃ i, P.info? t = some i ∧ i.size = ti.size := by
  have := h.size
  cases hi : P.info? t with
  | none => rw [hi] at this; simp at this
  | some i => rw [hi] at this; exact ⟨i, rfl, by simpa using this⟩

theorem TyOK.sizeOf {P : Program} {t : TypeId} {ti : TI} (h : TyOK P t ti) (w : World) : (sizeOf t).run P w = .ok ti.size w := by
  obtain ⟨i, hi, hs⟩ := h.info
  simp [Go.sizeOf, typeInfo, hi, hs]

theorem TyOK.zeroValue {P : Program} {t : TypeId} {ti : TI} (h : TyOK P t ti) : ∃ z : Value, z.cells.toList = ti.zero ∧ ∀ w, (zeroValue t).run P w = .ok z w := by
  have := h.zero
  cases hi : P.info? t with
  | none => rw [hi] at this; simp at this
  | some i =>
    rw [hi] at this
    cases hz : i.zero with
    | none => simp [hz] at this
    | some z => exact ⟨z, by simpa [hz] using this, fun w => by simp [Go.zeroValue, typeInfo, hi, hz]⟩

/-- The fields of a struct, one by one. -/
theorem struct_of {P : Program} {t : TypeId} {ti : TI} (h : TyOK P t ti) {fs : List (Nat × Nat × Bool)} (hs : ti.sh = .struct fs) :
    ∃ F : Array Field, P.underlying t = some (.struct F) ∧ ∀ (i off size : Nat) (g : Bool), fs[i]? = some (off, size, g) →
      ∃ f j d, F[i]? = some f ∧ f.offset = off ∧ P.info? f.type = some j ∧ j.size = size ∧ P.underlying f.type = some d ∧ isAggD d = g := by
  have h1 := h.sh
  unfold shOf at h1
  rw [hs] at h1
  cases hu : P.underlying t with
  | none => rw [hu] at h1; simp at h1
  | some d =>
    rw [hu] at h1
    cases d with
    | struct F =>
      refine ⟨F, rfl, fun i off size g hi => ?_⟩
      simp only [Option.map_eq_some_iff] at h1
      obtain ⟨l, hl, hle⟩ := h1
      injection hle with hle
      subst hle
      have key : ∀ (L : List Field) (l : List (Nat × Nat × Bool)), L.mapM (fieldSh P) = some l → ∀ (i off size : Nat) (g : Bool), l[i]? = some (off, size, g) →
          ∃ f j d, L[i]? = some f ∧ f.offset = off ∧ P.info? f.type = some j ∧ j.size = size ∧ P.underlying f.type = some d ∧ isAggD d = g := by
        intro L
        induction L with
        | nil => intro l hl i off size g hi; simp at hl; subst hl; simp at hi
        | cons f L ih =>
          intro l hl i off size g hi
          rw [List.mapM_cons] at hl
          simp only [Option.pure_def, Option.bind_eq_bind, Option.bind_eq_some_iff] at hl
          obtain ⟨y, hy, l', hl', hle⟩ := hl
          injection hle with hle
          subst hle
          cases i with
          | zero =>
            simp at hi
            subst hi
            unfold fieldSh at hy
            split at hy
            · rename_i j d hj hd
              injection hy with hy
              injection hy with e1 e2
              injection e2 with e2 e3
              exact ⟨f, j, d, rfl, e1, hj, e2, hd, e3⟩
            · cases hy
          | succ i =>
            simp at hi
            obtain ⟨f', j', d', h1, h2⟩ := ih l' hl' i off size g hi
            exact ⟨f', j', d', by simpa using h1, h2⟩
      obtain ⟨f, j, d, h1, h2⟩ := key F.toList l hl i off size g hi
      exact ⟨f, j, d, by simpa using h1, h2⟩
    | slice e => simp at h1
    | invalid => simp at h1
    | bool => simp at h1
    | int k => simp at h1
    | float k => simp at h1
    | complex k => simp at h1
    | string => simp at h1
    | unsafePointer => simp at h1
    | pointer e => simp at h1
    | array n e => simp at h1
    | map k e => simp at h1
    | chan d e => simp at h1
    | func a b c => simp at h1
    | interface m => simp at h1
    | tuple e => simp at h1
    | named a b => simp at h1

theorem slice_of {P : Program} {t : TypeId} {ti : TI} (h : TyOK P t ti) {e es eb : Nat} (hs : ti.sh = .slice e es eb) :
    P.underlying t = some (.slice e) ∧ ∃ i, P.info? e = some i ∧ i.size = es ∧ i.bytes = eb := by
  have h1 := h.sh
  unfold shOf at h1
  rw [hs] at h1
  cases hu : P.underlying t with
  | none => rw [hu] at h1; simp at h1
  | some d =>
    rw [hu] at h1
    cases d with
    | slice e' =>
      simp only [Option.map_eq_some_iff] at h1
      obtain ⟨i, hi, he⟩ := h1
      injection he with a b c
      subst a
      exact ⟨rfl, i, hi, b, c⟩
    | struct F => simp only [Option.map_eq_some_iff] at h1; obtain ⟨l, _, he⟩ := h1; cases he
    | invalid => simp at h1
    | bool => simp at h1
    | int k => simp at h1
    | float k => simp at h1
    | complex k => simp at h1
    | string => simp at h1
    | unsafePointer => simp at h1
    | pointer e => simp at h1
    | array n e => simp at h1
    | map k e => simp at h1
    | chan d e => simp at h1
    | func a b c => simp at h1
    | interface m => simp at h1
    | tuple e => simp at h1
    | named a b => simp at h1

def Sh.agg : Sh → Bool
  | .struct _ => true
  | _ => false

theorem TyOK.isAgg {P : Program} {t : TypeId} {ti : TI} (h : TyOK P t ti) (w : World) : (isAgg t).run P w = .ok ti.sh.agg w := by
  have h1 := h.sh
  unfold shOf at h1
  cases hu : P.underlying t with
  | none => rw [hu] at h1; simp at h1
  | some d =>
    rw [hu] at h1
    cases d <;> simp at h1 <;> simp [Go.isAgg, underlying, hu] <;>
      first
        | (rw [← h1]; rfl)
        | (obtain ⟨l, _, he⟩ := h1; rw [← he]; rfl)

/-! ### Small laws on addresses -/

theorem add_at (b o n : Nat) : (⟨b, o, none⟩ : Addr).add n = ⟨b, o + n, none⟩ := by
  unfold Addr.add
  split
  · rename_i h; subst h; rfl
  · rfl

theorem cell_stab {N : Nat → Prop} {w w' : World} (h : Stab N w w') {a : Addr} {v : Value} (hc : w.cell? a = some v) (hn : ¬ N a.block) : w'.cell? a = some v := by
  have hb : a.block < w.heap.size := World.block_lt_of_cell? w a hc
  rw [cell_of_heap (w := w) (h.2 _ hb hn)]
  exact hc

end Go.Proofs.Ytohchoelhnipmaa.Q
