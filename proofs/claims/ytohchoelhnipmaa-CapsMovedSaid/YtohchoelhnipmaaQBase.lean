/- The words of an own program logic: values by content, objects by number, and how they lie in a world. -/
import Derived.Below
import Derived.OrdersHeld
import Derived.WalkKit
namespace Go.Proofs.Ytohchoelhnipmaa.Q
open Go Go.RowKit

/-- A value by its content. 'sc': a value as it is; 'ro': a slice that nobody writes any more, row by row; 'pro': the address of cells that nobody writes any more; 'ptr': the address of a cell of an object; 'sl': a slice of an object's rows. -/
inductive V where
  | sc (v : Value)
  | ro (s : Nat) (rows : List (List V))
  | pro (cells : List V)
  | ptr (k r c : Nat)
  | sl (k off len : Nat)
  | fn (f : Fn) (cap : List V)
  | agg (l : List V)
  | tup (l : List V)
  deriving Inhabited

/-- May it stand in one cell? -/
def V.one : V → Bool
  | .sc (.agg _) | .sc (.tuple _) | .agg _ | .tup _ => false
  | _ => true

/-- An object: rows of cells, each of s cells. -/
structure Ob where
  s : Nat
  rows : List (List V)
  deriving Inhabited

@[reducible] def Objs : Type := List (Option Ob)
/-- Where objects lie: each one's block, and how many cells its rows have. -/
@[reducible] def Tab : Type := List (Nat × Nat)

/-- What is by content, and lies where nobody writes: blocks of L are written, or may be. -/
inductive RepP (w : World) (L : Nat → Prop) : V → Value → Prop
  | sc (v : Value) : RepP w L (.sc v) v
  | nil (s : Nat) : RepP w L (.ro s []) (.slice none 0 0)
  | ro (s : Nat) (rows : List (List V)) (b o cap : Nat) (val : Nat → Nat → Value) (hL : ¬ L b) (hb : b < w.heap.size) (hc : rows.length ≤ cap)
      (hr : ∀ row ∈ rows, row.length = s ∧ ∀ q ∈ row, q.one = true)
      (hcell : ∀ (r : Nat) (row : List V), rows[r]? = some row → ∀ (c : Nat) (q : V), row[c]? = some q → w.cell? ⟨b, o + (r * s + c), none⟩ = some (val r c))
      (hrep : ∀ (r : Nat) (row : List V), rows[r]? = some row → ∀ (c : Nat) (q : V), row[c]? = some q → RepP w L q (val r c)) :
      RepP w L (.ro s rows) (.slice (some ⟨b, o, none⟩) rows.length cap)
  | pro (cells : List V) (b o : Nat) (val : Nat → Value) (hL : ¬ L b) (hb : b < w.heap.size) (hone : ∀ q ∈ cells, q.one = true)
      (hcell : ∀ (c : Nat) (q : V), cells[c]? = some q → w.cell? ⟨b, o + c, none⟩ = some (val c))
      (hrep : ∀ (c : Nat) (q : V), cells[c]? = some q → RepP w L q (val c)) :
      RepP w L (.pro cells) (.pointer (some ⟨b, o, none⟩))

/-- Any value: its objects lie as the table says. -/
inductive Rep (w : World) (L : Nat → Prop) (T : Tab) : V → Value → Prop
  | pure {q : V} {v : Value} (h : RepP w L q v) : Rep w L T q v
  | ptr (k r c b s : Nat) (h : T[k]? = some (b, s)) : Rep w L T (.ptr k r c) (.pointer (some ⟨b, r * s + c, none⟩))
  | sl (k off len cap b s : Nat) (h : T[k]? = some (b, s)) (hc : len ≤ cap)
      (hroom : ∃ C t, w.heap[b]? = some (.cells C t (0, 0)) ∧ (off + cap) * s ≤ C.size) :
      Rep w L T (.sl k off len) (.slice (some ⟨b, off * s, none⟩) len cap)
  | fn (f : Fn) (l : List V) (vs : Array Value) (hs : vs.size = l.length) (h : ∀ (i : Nat) (q : V), l[i]? = some q → Rep w L T q (vs.getD i undef)) :
      Rep w L T (.fn f l) (.func f #[] vs)
  | agg (l : List V) (vs : Array Value) (hs : vs.size = l.length) (h : ∀ (i : Nat) (q : V), l[i]? = some q → Rep w L T q (vs.getD i undef)) :
      Rep w L T (.agg l) (.agg vs)
  | tup (l : List V) (vs : Array Value) (hs : vs.size = l.length) (h : ∀ (i : Nat) (q : V), l[i]? = some q → Rep w L T q (vs.getD i undef)) :
      Rep w L T (.tup l) (.tuple vs)

/-- An object's cells lie in a block of its own. -/
def RepOb (w : World) (L : Nat → Prop) (T : Tab) (b : Nat) (ob : Ob) : Prop :=
  ∃ C t, w.heap[b]? = some (.cells C t (0, 0)) ∧ (∀ row ∈ ob.rows, row.length = ob.s ∧ ∀ q ∈ row, q.one = true) ∧
    ∀ (r : Nat) (row : List V), ob.rows[r]? = some row → ∀ (c : Nat) (q : V), row[c]? = some q → ∃ v, C[r * ob.s + c]? = some v ∧ Rep w L T q v

/-- The blocks of all objects that are alive, and what else is to be let alone. -/
def Live (A : Nat → Prop) (T : Tab) (objs : Objs) (b : Nat) : Prop :=
  A b ∨ ∃ (k : Nat) (ob : Ob) (s : Nat), objs[k]? = some (some ob) ∧ T[k]? = some (b, s)

/-- A world holds objects; A: blocks that belong to somebody else. -/
structure HoldsM (w : World) (A : Nat → Prop) (T : Tab) (objs : Objs) : Prop where
  len : T.length = objs.length
  obj : ∀ (k : Nat) (ob : Ob), objs[k]? = some (some ob) → ∃ b, T[k]? = some (b, ob.s) ∧ ¬ A b ∧ RepOb w (Live A T objs) T b ob
  inj : ∀ (i j : Nat) (x y : Ob) (b s s' : Nat), objs[i]? = some (some x) → objs[j]? = some (some y) → T[i]? = some (b, s) → T[j]? = some (b, s') → i = j
  avoid : ∀ b, A b → b < w.heap.size

/-- From w to w' nothing has changed but blocks of M, and no block's size. -/
structure Keep (M : Nat → Prop) (w w' : World) : Prop where
  os : w'.os = w.os
  tape : w'.tape = w.tape
  output : w'.output = w.output
  size : w.heap.size ≤ w'.heap.size
  block : ∀ b, b < w.heap.size → ¬ M b → w'.heap[b]? = w.heap[b]?
  shape : ∀ (b : Nat) (C : Array Value) (t : TypeId), w.heap[b]? = some (.cells C t (0, 0)) → ∃ C' : Array Value, w'.heap[b]? = some (.cells C' t (0, 0)) ∧ C'.size = C.size

theorem Keep.refl (M : Nat → Prop) (w : World) : Keep M w w := ⟨rfl, rfl, rfl, Nat.le_refl _, fun _ _ _ => rfl, fun _ C _ h => ⟨C, h, rfl⟩⟩

theorem Keep.trans {M : Nat → Prop} {a b c : World} (h : Keep M a b) (k : Keep M b c) : Keep M a c where
  os := k.os.trans h.os
  tape := k.tape.trans h.tape
  output := k.output.trans h.output
  size := Nat.le_trans h.size k.size
  block := fun i hi hm => (k.block i (Nat.lt_of_lt_of_le hi h.size) hm).trans (h.block i hi hm)
  shape := fun i C t hc => by
    obtain ⟨C1, h1, e1⟩ := h.shape i C t hc
    obtain ⟨C2, h2, e2⟩ := k.shape i C1 t h1
    exact ⟨C2, h2, e2.trans e1⟩

theorem Keep.mono {M M' : Nat → Prop} {a b : World} (h : Keep M a b) (hm : ∀ i, i < a.heap.size → M i → M' i) : Keep M' a b :=
  ⟨h.os, h.tape, h.output, h.size, fun i hi hn => h.block i hi fun hx => hn (hm i hi hx), h.shape⟩

theorem cell_of_heap {w w' : World} {a : Addr} (h : w'.heap[a.block]? = w.heap[a.block]?) : w'.cell? a = w.cell? a := by
  unfold World.cell?; rw [h]

/-- What is by content stays so, where its blocks stay as they are. -/
theorem RepP.later {w w' : World} {L L' : Nat → Prop} {q : V} {v : Value} (h : RepP w L q v) (hsize : w.heap.size ≤ w'.heap.size)
    (hblock : ∀ b, b < w.heap.size → ¬ L b → w'.heap[b]? = w.heap[b]?) (hL' : ∀ b, b < w.heap.size → ¬ L b → ¬ L' b) : RepP w' L' q v := by
  induction h with
  | sc v => exact .sc v
  | nil s => exact .nil s
  | ro s rows b o cap val hL hb hc hr hcell hrep ih =>
    exact .ro s rows b o cap val (hL' b hb hL) (Nat.lt_of_lt_of_le hb hsize) hc hr
      (fun r row h1 c q h2 => by rw [cell_of_heap (w := w) (hblock b hb hL)]; exact hcell r row h1 c q h2) (fun r row h1 c q h2 => ih r row h1 c q h2)
  | pro cells b o val hL hb hone hcell hrep ih =>
    exact .pro cells b o val (hL' b hb hL) (Nat.lt_of_lt_of_le hb hsize) hone (fun c q h2 => by rw [cell_of_heap (w := w) (hblock b hb hL)]; exact hcell c q h2) (fun c q h2 => ih c q h2)

theorem Rep.later {w w' : World} {L L' : Nat → Prop} {T T' : Tab} {q : V} {v : Value} (h : Rep w L T q v) (hsize : w.heap.size ≤ w'.heap.size)
    (hblock : ∀ b, b < w.heap.size → ¬ L b → w'.heap[b]? = w.heap[b]?) (hL' : ∀ b, b < w.heap.size → ¬ L b → ¬ L' b)
    (hshape : ∀ (b : Nat) (C : Array Value) (t : TypeId), w.heap[b]? = some (.cells C t (0, 0)) → ∃ C' : Array Value, w'.heap[b]? = some (.cells C' t (0, 0)) ∧ C'.size = C.size)
    (hT : ∀ (k : Nat) (p : Nat × Nat), T[k]? = some p → T'[k]? = some p) : Rep w' L' T' q v := by
  induction h with
  | pure h => exact .pure (h.later hsize hblock hL')
  | ptr k r c b s h => exact .ptr k r c b s (hT _ _ h)
  | sl k off len cap b s h hc hroom =>
    obtain ⟨C, t, h1, h2⟩ := hroom
    obtain ⟨C', h1', e⟩ := hshape b C t h1
    exact .sl k off len cap b s (hT _ _ h) hc ⟨C', t, h1', by omega⟩
  | fn f l vs hs h ih => exact .fn f l vs hs ih
  | agg l vs hs h ih => exact .agg l vs hs ih
  | tup l vs hs h ih => exact .tup l vs hs ih

end Go.Proofs.Ytohchoelhnipmaa.Q
