/- Texts of this claim, one behind the other. -/
import Derived.WalkKit
import Derived.Below
import Derived.OrdersHeld
import Derived.Laws.Cells
import Derived.Laws.StructEq
import Derived.Laws.Cover3
import Derived.Laws.BytesString
import Derived.IntWalk
import Derived.Laws.AppendOwn
/- What package-level variables hold that nobody writes, cell by cell: strings.asciiSpace alone. -/
namespace Go.Proofs.YtibmbbogjkecoaaDoor.M
open Go

def spaceL : List Value := [.int .u8 0, .int .u8 0, .int .u8 0, .int .u8 0, .int .u8 0, .int .u8 0, .int .u8 0, .int .u8 0, .int .u8 0, .int .u8 1, .int .u8 1, .int .u8 1, .int .u8 1, .int .u8 1, .int .u8 0, .int .u8 0, .int .u8 0, .int .u8 0, .int .u8 0, .int .u8 0, .int .u8 0, .int .u8 0, .int .u8 0, .int .u8 0, .int .u8 0, .int .u8 0, .int .u8 0, .int .u8 0, .int .u8 0, .int .u8 0, .int .u8 0, .int .u8 0, .int .u8 1, .int .u8 0, .int .u8 0, .int .u8 0, .int .u8 0, .int .u8 0, .int .u8 0, .int .u8 0, .int .u8 0, .int .u8 0, .int .u8 0, .int .u8 0, .int .u8 0, .int .u8 0, .int .u8 0, .int .u8 0, .int .u8 0, .int .u8 0, .int .u8 0, .int .u8 0, .int .u8 0, .int .u8 0, .int .u8 0, .int .u8 0, .int .u8 0, .int .u8 0, .int .u8 0, .int .u8 0, .int .u8 0, .int .u8 0, .int .u8 0, .int .u8 0, .int .u8 0, .int .u8 0, .int .u8 0, .int .u8 0, .int .u8 0, .int .u8 0, .int .u8 0, .int .u8 0, .int .u8 0, .int .u8 0, .int .u8 0, .int .u8 0, .int .u8 0, .int .u8 0, .int .u8 0, .int .u8 0, .int .u8 0, .int .u8 0, .int .u8 0, .int .u8 0, .int .u8 0, .int .u8 0, .int .u8 0, .int .u8 0, .int .u8 0, .int .u8 0, .int .u8 0, .int .u8 0, .int .u8 0, .int .u8 0, .int .u8 0, .int .u8 0, .int .u8 0, .int .u8 0, .int .u8 0, .int .u8 0, .int .u8 0, .int .u8 0, .int .u8 0, .int .u8 0, .int .u8 0, .int .u8 0, .int .u8 0, .int .u8 0, .int .u8 0, .int .u8 0, .int .u8 0, .int .u8 0, .int .u8 0, .int .u8 0, .int .u8 0, .int .u8 0, .int .u8 0, .int .u8 0, .int .u8 0, .int .u8 0, .int .u8 0, .int .u8 0, .int .u8 0, .int .u8 0, .int .u8 0, .int .u8 0, .int .u8 0, .int .u8 0, .int .u8 0, .int .u8 0, .int .u8 0, .int .u8 0, .int .u8 0, .int .u8 0, .int .u8 0, .int .u8 0, .int .u8 0, .int .u8 0, .int .u8 0, .int .u8 0, .int .u8 0, .int .u8 0, .int .u8 0, .int .u8 0, .int .u8 0, .int .u8 0, .int .u8 0, .int .u8 0, .int .u8 0, .int .u8 0, .int .u8 0, .int .u8 0, .int .u8 0, .int .u8 0, .int .u8 0, .int .u8 0, .int .u8 0, .int .u8 0, .int .u8 0, .int .u8 0, .int .u8 0, .int .u8 0, .int .u8 0, .int .u8 0, .int .u8 0, .int .u8 0, .int .u8 0, .int .u8 0, .int .u8 0, .int .u8 0, .int .u8 0, .int .u8 0, .int .u8 0, .int .u8 0, .int .u8 0, .int .u8 0, .int .u8 0, .int .u8 0, .int .u8 0, .int .u8 0, .int .u8 0, .int .u8 0, .int .u8 0, .int .u8 0, .int .u8 0, .int .u8 0, .int .u8 0, .int .u8 0, .int .u8 0, .int .u8 0, .int .u8 0, .int .u8 0, .int .u8 0, .int .u8 0, .int .u8 0, .int .u8 0, .int .u8 0, .int .u8 0, .int .u8 0, .int .u8 0, .int .u8 0, .int .u8 0, .int .u8 0, .int .u8 0, .int .u8 0, .int .u8 0, .int .u8 0, .int .u8 0, .int .u8 0, .int .u8 0, .int .u8 0, .int .u8 0, .int .u8 0, .int .u8 0, .int .u8 0, .int .u8 0, .int .u8 0, .int .u8 0, .int .u8 0, .int .u8 0, .int .u8 0, .int .u8 0, .int .u8 0, .int .u8 0, .int .u8 0, .int .u8 0, .int .u8 0, .int .u8 0, .int .u8 0, .int .u8 0, .int .u8 0, .int .u8 0, .int .u8 0, .int .u8 0, .int .u8 0, .int .u8 0, .int .u8 0, .int .u8 0, .int .u8 0, .int .u8 0, .int .u8 0, .int .u8 0, .int .u8 0, .int .u8 0, .int .u8 0, .int .u8 0, .int .u8 0, .int .u8 0, .int .u8 0, .int .u8 0, .int .u8 0, .int .u8 0, .int .u8 0, .int .u8 0, .int .u8 0, .int .u8 0]
def gdat : Nat → Option (List Value) := fun g => match Nat.beq g 3 with | true => some spaceL | false => none

end Go.Proofs.YtibmbbogjkecoaaDoor.M

/- The words of a machine by content: values, objects by number, and how they lie in a world. -/
namespace Go.Proofs.YtibmbbogjkecoaaDoor.M
open Go Go.RowKit
set_option linter.unusedVariables false
set_option linter.unusedSimpArgs false

/-- The bytes of a text that is packed into a number: so many, the first one lowest. -/
def bytesL : Nat → Nat → List UInt8
  | 0, _ => []
  | l + 1, n => UInt8.ofNat (n % 256) :: bytesL l (n / 256)

def unpack (len n : Nat) : ByteArray := ⟨⟨bytesL len n⟩⟩

/-- A value by its content. 'un': whatever it is; 'sym': a value of one cell that has a number and no more; 'sc': a value as it is; 'ps': a packed text; 'ro': a slice that nobody writes any more, row by row; 'pro': the address of cells that nobody writes any more; 'ptr': the address of a cell of an object; 'sl': a slice of an object's rows (full: it has no room behind it). -/
inductive V where
  | un
  | sym (i : Nat)
  | sc (v : Value)
  | int (k : IntKind) (n : Int)
  | bool (b : Bool)
  | ps (len n : Nat)
  | ro (s : Nat) (rows : List (List V))
  | pro (cells : List V)
  | ptr (k r c : Nat)
  | sl (k off len : Nat) (full : Bool)
  | fn (f : FuncId) (cap : List V)
  | bnd (f : FuncId) (first : List V)
  | mapr (k : Nat)
  | ifc (t : TypeId) (v : V)
  | agg (l : List V)
  | tup (l : List V)
  deriving Inhabited

/-- May it stand in one cell? -/
def V.one : V → Bool
  | .un | .agg _ | .tup _ => false
  | .sc (.agg _) | .sc (.tuple _) => false
  | _ => true

/-- An object: rows of cells, each of s cells. -/
structure Ob where
  s : Nat
  row : Nat → Option (List V)
  /-- Is it a map? Then each row is a key and what it holds. -/
  mp : Bool

instance : Inhabited Ob := ⟨⟨0, fun _ => none, false⟩⟩

@[reducible] def Objs : Type := Nat → Option Ob
/-- Where an object lies: its block, where in it, how many cells a row has. -/
structure Pl where
  b : Nat
  o : Nat
  s : Nat
@[reducible] def Tab : Type := Nat → Option Pl

/-- What is by content, and lies where nobody writes: blocks of L are written, or may be. -/
inductive RepP (ρ : Nat → Value) (w : World) (L : Nat → Prop) : V → Value → Prop
  | un (v : Value) : RepP ρ w L .un v
  | sym (i : Nat) (h : (ρ i).oneCell' = true) : RepP ρ w L (.sym i) (ρ i)
  | sc (v : Value) : RepP ρ w L (.sc v) v
  | int (k : IntKind) (n : Int) : RepP ρ w L (.int k n) (.int k n)
  | bool (b : Bool) : RepP ρ w L (.bool b) (.bool b)
  | ps (len n : Nat) (h : n < 256 ^ len) : RepP ρ w L (.ps len n) (.string (unpack len n))
  | nil (s : Nat) : RepP ρ w L (.ro s []) (.slice none 0 0)
  | ro (s : Nat) (rows : List (List V)) (b o cap : Nat) (val : Nat → Nat → Value) (hL : ¬ L b) (hb : b < w.heap.size) (hc : rows.length ≤ cap)
      (hr : ∀ row ∈ rows, row.length = s ∧ ∀ q ∈ row, q.one = true)
      (hcell : ∀ (r : Nat) (row : List V), rows[r]? = some row → ∀ (c : Nat) (q : V), row[c]? = some q → w.cell? ⟨b, o + (r * s + c), none⟩ = some (val r c))
      (hrep : ∀ (r : Nat) (row : List V), rows[r]? = some row → ∀ (c : Nat) (q : V), row[c]? = some q → RepP ρ w L q (val r c)) :
      RepP ρ w L (.ro s rows) (.slice (some ⟨b, o, none⟩) rows.length cap)
  | pro (cells : List V) (b o : Nat) (val : Nat → Value) (hL : ¬ L b) (hb : b < w.heap.size) (hone : ∀ q ∈ cells, q.one = true)
      (hcell : ∀ (c : Nat) (q : V), cells[c]? = some q → w.cell? ⟨b, o + c, none⟩ = some (val c))
      (hrep : ∀ (c : Nat) (q : V), cells[c]? = some q → RepP ρ w L q (val c)) :
      RepP ρ w L (.pro cells) (.pointer (some ⟨b, o, none⟩))

/-- Any value: its objects lie as the table says. -/
inductive Rep (ρ : Nat → Value) (w : World) (L : Nat → Prop) (T : Tab) : V → Value → Prop
  | pure {q : V} {v : Value} (h : RepP ρ w L q v) : Rep ρ w L T q v
  | ptr (k r c : Nat) (p : Pl) (h : T k = some p) : Rep ρ w L T (.ptr k r c) (.pointer (some ⟨p.b, p.o + (r * p.s + c), none⟩))
  | sl (k off len : Nat) (full : Bool) (p : Pl) (at_ cap : Nat) (h : T k = some p) (ha : len = 0 ∨ at_ = p.o + off * p.s) (hc : len ≤ cap) (hf : full = true → cap = len)
      (hroom : ∃ C t fr, w.heap[p.b]? = some (.cells C t fr) ∧ at_ + cap * p.s ≤ C.size) :
      Rep ρ w L T (.sl k off len full) (.slice (some ⟨p.b, at_, none⟩) len cap)
  | fn (f : FuncId) (l : List V) (vs : Array Value) (hs : vs.size = l.length) (h : ∀ (i : Nat) (q : V), l[i]? = some q → Rep ρ w L T q (vs.getD i undef)) :
      Rep ρ w L T (.fn f l) (.func (.func f) #[] vs)
  | bnd (f : FuncId) (l : List V) (vs : Array Value) (hs : vs.size = l.length) (h : ∀ (i : Nat) (q : V), l[i]? = some q → Rep ρ w L T q (vs.getD i undef)) :
      Rep ρ w L T (.bnd f l) (.func (.func f) vs #[])
  | mapr (k : Nat) (p : Pl) (h : T k = some p) : Rep ρ w L T (.mapr k) (.map (some p.b))
  | ifc (t : TypeId) (q : V) (v : Value) (h : Rep ρ w L T q v) : Rep ρ w L T (.ifc t q) (.iface t v)
  | agg (l : List V) (vs : Array Value) (hs : vs.size = l.length) (h : ∀ (i : Nat) (q : V), l[i]? = some q → Rep ρ w L T q (vs.getD i undef)) :
      Rep ρ w L T (.agg l) (.agg vs)
  | tup (l : List V) (vs : Array Value) (hs : vs.size = l.length) (h : ∀ (i : Nat) (q : V), l[i]? = some q → Rep ρ w L T q (vs.getD i undef)) :
      Rep ρ w L T (.tup l) (.tuple vs)

/-- A map's entries: each row is a key and what it holds. -/
def RepMap (ρ : Nat → Value) (w : World) (L : Nat → Prop) (T : Tab) (b : Nat) (row : Nat → Option (List V)) : Prop :=
  ∃ E clock, w.heap[b]? = some (.map E clock) ∧ (∀ r, E.size ≤ r → row r = none) ∧
    ∀ (r : Nat) (e : MapEntry), E[r]? = some e → ∃ k v, row r = some [k, v] ∧ Rep ρ w L T k e.key ∧ Rep ρ w L T v e.val

/-- An object's cells lie in a block of its own. Or it is a map. -/
def RepOb (ρ : Nat → Value) (w : World) (L : Nat → Prop) (T : Tab) (p : Pl) (ob : Ob) : Prop :=
  p.s = ob.s ∧ (ob.mp = false → ∃ C t, w.heap[p.b]? = some (.cells C t (0, 0)) ∧
    ∀ (r : Nat) (row : List V), ob.row r = some row → row.length = ob.s ∧ (∀ q ∈ row, q.one = true) ∧
      ∀ (c : Nat) (q : V), row[c]? = some q → ∃ v, C[p.o + (r * p.s + c)]? = some v ∧ Rep ρ w L T q v) ∧
    (ob.mp = true → RepMap ρ w L T p.b ob.row)

theorem RepOb.later {ρ : Nat → Value} {w w' : World} {L L' : Nat → Prop} {T T' : Tab} {p : Pl} {ob : Ob} (h : RepOb ρ w L T p ob) (hb : w'.heap[p.b]? = w.heap[p.b]?)
    (hrep : ∀ (q : V) (v : Value), Rep ρ w L T q v → Rep ρ w' L' T' q v) : RepOb ρ w' L' T' p ob := by
  obtain ⟨h1, h2, h3⟩ := h
  refine ⟨h1, fun hs => ?_, fun hs => ?_⟩
  · obtain ⟨C, t, g1, g2⟩ := h2 hs
    refine ⟨C, t, hb.trans g1, fun r row hr => ?_⟩
    obtain ⟨g3, g4, g5⟩ := g2 r row hr
    refine ⟨g3, g4, fun c q hq => ?_⟩
    obtain ⟨v, g6, g7⟩ := g5 c q hq
    exact ⟨v, g6, hrep _ _ g7⟩
  · obtain ⟨E, clock, g1, g2, g3⟩ := h3 hs
    refine ⟨E, clock, hb.trans g1, g2, fun r e he => ?_⟩
    obtain ⟨k, v, g4, g5, g6⟩ := g3 r e he
    exact ⟨k, v, g4, hrep _ _ g5, hrep _ _ g6⟩

theorem RepOb.heap {ρ : Nat → Value} {w : World} {L : Nat → Prop} {T : Tab} {p : Pl} {ob : Ob} (h : RepOb ρ w L T p ob) : p.b < w.heap.size := by
  obtain ⟨h1, h2, h3⟩ := h
  have key : ∀ x : Obj, w.heap[p.b]? = some x → p.b < w.heap.size := fun x hx => by
    rcases Nat.lt_or_ge p.b w.heap.size with g | g
    · exact g
    · rw [Array.getElem?_eq_none g] at hx; cases hx
  cases hs : ob.mp with
  | true =>
    obtain ⟨E, clock, g1, _⟩ := h3 hs
    exact key _ g1
  | false =>
    obtain ⟨C, t, g1, _⟩ := h2 hs
    exact key _ g1

/-- The blocks of all objects that are alive. -/
def LiveO (T : Tab) (objs : Objs) (b : Nat) : Prop := ∃ (k : Nat) (ob : Ob) (p : Pl), objs k = some ob ∧ T k = some p ∧ p.b = b

/-- The same, and what belongs to somebody else. -/
def Live (A : Nat → Prop) (T : Tab) (objs : Objs) (b : Nat) : Prop := A b ∨ LiveO T objs b

/-- Bytes as a number. -/
def packL : List UInt8 → Nat
  | [] => 0
  | b :: l => b.toNat + 256 * packL l

/-- Values of the text by content. -/
def cv : Value → V
  | .int k n => .int k n
  | .bool b => .bool b
  | .string s => .ps s.size (packL s.data.toList)
  | v => .sc v

/-- What nobody writes lies where it should. -/
def Globs (w : World) (L : Nat → Prop) : Prop :=
  ∀ (g : Nat) (vs : List Value), gdat g = some vs → ¬ L g ∧ g < w.heap.size ∧ ∀ (i : Nat) (v : Value), vs[i]? = some v → (cv v).one = true ∧ w.cell? ⟨g, i, none⟩ = some v

theorem Globs.later {w w' : World} {L L' : Nat → Prop} (h : Globs w L) (hsize : w.heap.size ≤ w'.heap.size)
    (hblock : ∀ b, b < w.heap.size → ¬ L b → w'.heap[b]? = w.heap[b]?) (hL' : ∀ b, b < w.heap.size → ¬ L b → ¬ L' b) : Globs w' L' := by
  intro g vs hg
  obtain ⟨h1, h2, h3⟩ := h g vs hg
  refine ⟨hL' g h2 h1, Nat.lt_of_lt_of_le h2 hsize, fun i v hi => ?_⟩
  obtain ⟨h4, h5⟩ := h3 i v hi
  refine ⟨h4, ?_⟩
  have e : w'.cell? ⟨g, i, none⟩ = w.cell? ⟨g, i, none⟩ := by
    unfold World.cell?
    rw [show w'.heap[(⟨g, i, none⟩ : Addr).block]? = w.heap[(⟨g, i, none⟩ : Addr).block]? from hblock g h2 h1]
  rw [e]
  exact h5

theorem Globs.congr {w : World} {L L' : Nat → Prop} (h : Globs w L) (hL : ∀ b, L' b → L b) : Globs w L' :=
  h.later (Nat.le_refl _) (fun _ _ _ => rfl) (fun b _ hn hl => hn (hL b hl))

/-- A world holds objects. -/
structure HoldsM (ρ : Nat → Value) (w : World) (A : Nat → Prop) (T : Tab) (objs : Objs) : Prop where
  avoid : ∀ b, A b → b < w.heap.size
  low : ∀ (k : Nat) (p : Pl), T k = some p → p.b < w.heap.size
  obj : ∀ (k : Nat) (ob : Ob), objs k = some ob → ∃ p, T k = some p ∧ ¬ A p.b ∧ RepOb ρ w (Live A T objs) T p ob
  inj : ∀ (i j : Nat) (x y : Ob) (p q : Pl), objs i = some x → objs j = some y → T i = some p → T j = some q → p.b = q.b → i = j
  glob : Globs w (Live A T objs)

/-- From w to w' nothing has changed but blocks of M, and no block's size. -/
structure Keep (M : Nat → Prop) (w w' : World) : Prop where
  os : w'.os = w.os
  tape : w'.tape = w.tape
  output : w'.output = w.output
  size : w.heap.size ≤ w'.heap.size
  block : ∀ b, b < w.heap.size → ¬ M b → w'.heap[b]? = w.heap[b]?
  shape : ∀ (b : Nat) (C : Array Value) (t : TypeId) (fr : Nat × Nat), w.heap[b]? = some (.cells C t fr) → ∃ (C' : Array Value) (fr' : Nat × Nat), w'.heap[b]? = some (.cells C' t fr') ∧ C'.size = C.size

theorem Keep.refl (M : Nat → Prop) (w : World) : Keep M w w := ⟨rfl, rfl, rfl, Nat.le_refl _, fun _ _ _ => rfl, fun _ C _ fr h => ⟨C, fr, h, rfl⟩⟩

theorem Keep.trans {M : Nat → Prop} {a b c : World} (h : Keep M a b) (k : Keep M b c) : Keep M a c where
  os := k.os.trans h.os
  tape := k.tape.trans h.tape
  output := k.output.trans h.output
  size := Nat.le_trans h.size k.size
  block := fun i hi hm => (k.block i (Nat.lt_of_lt_of_le hi h.size) hm).trans (h.block i hi hm)
  shape := fun i C t fr hc => by
    obtain ⟨C1, f1, h1, e1⟩ := h.shape i C t fr hc
    obtain ⟨C2, f2, h2, e2⟩ := k.shape i C1 t f1 h1
    exact ⟨C2, f2, h2, e2.trans e1⟩

theorem Keep.mono {M M' : Nat → Prop} {a b : World} (h : Keep M a b) (hm : ∀ i, i < a.heap.size → M i → M' i) : Keep M' a b :=
  ⟨h.os, h.tape, h.output, h.size, fun i hi hn => h.block i hi fun hx => hn (hm i hi hx), h.shape⟩

theorem cell_of_heap {w w' : World} {a : Addr} (h : w'.heap[a.block]? = w.heap[a.block]?) : w'.cell? a = w.cell? a := by
  unfold World.cell?; rw [h]

variable {ρ : Nat → Value}

/-- What is by content stays so, where its blocks stay as they are. -/
theorem RepP.later {w w' : World} {L L' : Nat → Prop} {q : V} {v : Value} (h : RepP ρ w L q v) (hsize : w.heap.size ≤ w'.heap.size)
    (hblock : ∀ b, b < w.heap.size → ¬ L b → w'.heap[b]? = w.heap[b]?) (hL' : ∀ b, b < w.heap.size → ¬ L b → ¬ L' b) : RepP ρ w' L' q v := by
  induction h with
  | un v => exact .un v
  | sym i h => exact .sym i h
  | sc v => exact .sc v
  | int k n => exact .int k n
  | bool b => exact .bool b
  | ps len n h => exact .ps len n h
  | nil s => exact .nil s
  | ro s rows b o cap val hL hb hc hr hcell hrep ih =>
    exact .ro s rows b o cap val (hL' b hb hL) (Nat.lt_of_lt_of_le hb hsize) hc hr
      (fun r row h1 c q h2 => by rw [cell_of_heap (w := w) (hblock b hb hL)]; exact hcell r row h1 c q h2) (fun r row h1 c q h2 => ih r row h1 c q h2)
  | pro cells b o val hL hb hone hcell hrep ih =>
    exact .pro cells b o val (hL' b hb hL) (Nat.lt_of_lt_of_le hb hsize) hone (fun c q h2 => by rw [cell_of_heap (w := w) (hblock b hb hL)]; exact hcell c q h2) (fun c q h2 => ih c q h2)

theorem Rep.later {w w' : World} {L L' : Nat → Prop} {T T' : Tab} {q : V} {v : Value} (h : Rep ρ w L T q v) (hsize : w.heap.size ≤ w'.heap.size)
    (hblock : ∀ b, b < w.heap.size → ¬ L b → w'.heap[b]? = w.heap[b]?) (hL' : ∀ b, b < w.heap.size → ¬ L b → ¬ L' b)
    (hshape : ∀ (b : Nat) (C : Array Value) (t : TypeId) (fr : Nat × Nat), w.heap[b]? = some (.cells C t fr) → ∃ (C' : Array Value) (fr' : Nat × Nat), w'.heap[b]? = some (.cells C' t fr') ∧ C'.size = C.size)
    (hT : ∀ (k : Nat) (p : Pl), T k = some p → T' k = some p) : Rep ρ w' L' T' q v := by
  induction h with
  | pure h => exact .pure (h.later hsize hblock hL')
  | ptr k r c p h => exact .ptr k r c p (hT _ _ h)
  | sl k off len full p at_ cap h ha hc hf hroom =>
    obtain ⟨C, t, fr, h1, h2⟩ := hroom
    obtain ⟨C', fr', h1', e⟩ := hshape p.b C t fr h1
    exact .sl k off len full p at_ cap (hT _ _ h) ha hc hf ⟨C', t, fr', h1', by omega⟩
  | fn f l vs hs h ih => exact .fn f l vs hs ih
  | bnd f l vs hs h ih => exact .bnd f l vs hs ih
  | mapr k p h => exact .mapr k p (hT _ _ h)
  | ifc t q v h ih => exact .ifc t q v ih
  | agg l vs hs h ih => exact .agg l vs hs ih
  | tup l vs hs h ih => exact .tup l vs hs ih

theorem Rep.congr {w : World} {L L' : Nat → Prop} {T : Tab} {q : V} {v : Value} (h : Rep ρ w L T q v) (hL : ∀ b, L' b → L b) : Rep ρ w L' T q v :=
  h.later (Nat.le_refl _) (fun _ _ _ => rfl) (fun b _ hn hl => hn (hL b hl)) (fun _ C _ fr hc => ⟨C, fr, hc, rfl⟩) (fun _ _ h => h)

section inversions
variable {w : World} {L : Nat → Prop} {T : Tab} {x : Value}

theorem rep_un {v : Value} : Rep ρ w L T .un v := .pure (.un v)

theorem rep_sc {v : Value} (h : Rep ρ w L T (.sc v) x) : x = v := by
  cases h with
  | pure h => cases h; rfl

theorem rep_int {k : IntKind} {n : Int} (h : Rep ρ w L T (.int k n) x) : x = .int k n := by
  cases h with
  | pure h => cases h; rfl

theorem rep_bool {b : Bool} (h : Rep ρ w L T (.bool b) x) : x = .bool b := by
  cases h with
  | pure h => cases h; rfl

theorem rep_ps {len n : Nat} (h : Rep ρ w L T (.ps len n) x) : x = .string (unpack len n) ∧ n < 256 ^ len := by
  cases h with
  | pure h => cases h with
    | ps _ _ h => exact ⟨rfl, h⟩

theorem rep_ptr {k r c : Nat} (h : Rep ρ w L T (.ptr k r c) x) : ∃ p, T k = some p ∧ x = .pointer (some ⟨p.b, p.o + (r * p.s + c), none⟩) := by
  cases h with
  | pure h => cases h
  | ptr _ _ _ p h => exact ⟨p, h, rfl⟩

theorem rep_sl {k off len : Nat} {full : Bool} (h : Rep ρ w L T (.sl k off len full) x) : ∃ p at_ cap, T k = some p ∧ (len = 0 ∨ at_ = p.o + off * p.s) ∧ len ≤ cap ∧ (full = true → cap = len) ∧
    (∃ C t fr, w.heap[p.b]? = some (.cells C t fr) ∧ at_ + cap * p.s ≤ C.size) ∧ x = .slice (some ⟨p.b, at_, none⟩) len cap := by
  cases h with
  | pure h => cases h
  | sl _ _ _ _ p at_ cap h ha hc hf hr => exact ⟨p, at_, cap, h, ha, hc, hf, hr, rfl⟩

theorem rep_fn {f : FuncId} {l : List V} (h : Rep ρ w L T (.fn f l) x) : ∃ vs : Array Value, x = .func (.func f) #[] vs ∧ vs.size = l.length ∧
    ∀ (i : Nat) (q : V), l[i]? = some q → Rep ρ w L T q (vs.getD i undef) := by
  cases h with
  | pure h => cases h
  | fn _ _ vs hs h => exact ⟨vs, rfl, hs, h⟩

theorem rep_bnd {f : FuncId} {l : List V} (h : Rep ρ w L T (.bnd f l) x) : ∃ vs : Array Value, x = .func (.func f) vs #[] ∧ vs.size = l.length ∧
    ∀ (i : Nat) (q : V), l[i]? = some q → Rep ρ w L T q (vs.getD i undef) := by
  cases h with
  | pure h => cases h
  | bnd _ _ vs hs h => exact ⟨vs, rfl, hs, h⟩

theorem rep_mapr {k : Nat} (h : Rep ρ w L T (.mapr k) x) : ∃ p, T k = some p ∧ x = .map (some p.b) := by
  cases h with
  | pure h => cases h
  | mapr _ p h => exact ⟨p, h, rfl⟩

theorem rep_ifc {t : TypeId} {q : V} (h : Rep ρ w L T (.ifc t q) x) : ∃ v, x = .iface t v ∧ Rep ρ w L T q v := by
  cases h with
  | pure h => cases h
  | ifc _ _ v h => exact ⟨v, rfl, h⟩

theorem rep_agg {l : List V} (h : Rep ρ w L T (.agg l) x) : ∃ vs : Array Value, x = .agg vs ∧ vs.size = l.length ∧
    ∀ (i : Nat) (q : V), l[i]? = some q → Rep ρ w L T q (vs.getD i undef) := by
  cases h with
  | pure h => cases h
  | agg _ vs hs h => exact ⟨vs, rfl, hs, h⟩

theorem rep_tup {l : List V} (h : Rep ρ w L T (.tup l) x) : ∃ vs : Array Value, x = .tuple vs ∧ vs.size = l.length ∧
    ∀ (i : Nat) (q : V), l[i]? = some q → Rep ρ w L T q (vs.getD i undef) := by
  cases h with
  | pure h => cases h
  | tup _ vs hs h => exact ⟨vs, rfl, hs, h⟩

theorem rep_pro {cells : List V} (h : Rep ρ w L T (.pro cells) x) : ∃ (b o : Nat) (val : Nat → Value), x = .pointer (some ⟨b, o, none⟩) ∧ ¬ L b ∧ b < w.heap.size ∧ (∀ q ∈ cells, q.one = true) ∧
    (∀ (c : Nat) (q : V), cells[c]? = some q → w.cell? ⟨b, o + c, none⟩ = some (val c)) ∧ (∀ (c : Nat) (q : V), cells[c]? = some q → RepP ρ w L q (val c)) := by
  cases h with
  | pure h => cases h with
    | pro _ b o val h1 h2 h3 h4 h5 => exact ⟨b, o, val, rfl, h1, h2, h3, h4, h5⟩

/-- A slice that nobody writes: nil, or rows in a block. -/
theorem rep_ro {s : Nat} {rows : List (List V)} (h : Rep ρ w L T (.ro s rows) x) :
    (x = .slice none 0 0 ∧ rows = []) ∨ ∃ (b o cap : Nat) (val : Nat → Nat → Value), x = .slice (some ⟨b, o, none⟩) rows.length cap ∧ ¬ L b ∧ b < w.heap.size ∧ rows.length ≤ cap ∧ (∀ row ∈ rows, row.length = s ∧ ∀ q ∈ row, q.one = true) ∧
    (∀ (r : Nat) (row : List V), rows[r]? = some row → ∀ (c : Nat) (q : V), row[c]? = some q → w.cell? ⟨b, o + (r * s + c), none⟩ = some (val r c)) ∧
    (∀ (r : Nat) (row : List V), rows[r]? = some row → ∀ (c : Nat) (q : V), row[c]? = some q → RepP ρ w L q (val r c)) := by
  cases h with
  | pure h => cases h with
    | nil => exact .inl ⟨rfl, rfl⟩
    | ro _ _ b o cap val h1 h2 h3 h4 h5 h6 => exact .inr ⟨b, o, cap, val, rfl, h1, h2, h3, h4, h5, h6⟩
end inversions

/-! ### Packed texts -/

theorem bytesL_length : ∀ (l n : Nat), (bytesL l n).length = l
  | 0, _ => rfl
  | l + 1, n => by simp [bytesL, bytesL_length l]

theorem bytesL_get : ∀ (l n i : Nat), i < l → (bytesL l n)[i]? = some (UInt8.ofNat (n / 256 ^ i % 256))
  | 0, n, i, h => by omega
  | l + 1, n, 0, _ => by simp [bytesL]
  | l + 1, n, i + 1, h => by
    simp only [bytesL, List.getElem?_cons_succ]
    rw [bytesL_get l (n / 256) i (by omega), Nat.div_div_eq_div_mul, Nat.pow_succ, Nat.mul_comm 256]

theorem bytesL_append : ∀ (a b m n : Nat), m < 256 ^ a → bytesL (a + b) (m + n * 256 ^ a) = bytesL a m ++ bytesL b n
  | 0, b, m, n, h => by
    have : m = 0 := by simpa using h
    subst this
    simp [bytesL]
  | a + 1, b, m, n, h => by
    rw [show a + 1 + b = (a + b) + 1 by omega]
    simp only [bytesL, List.cons_append]
    have e1 : (m + n * 256 ^ (a + 1)) % 256 = m % 256 := by
      rw [Nat.pow_succ, ← Nat.mul_assoc, Nat.add_mul_mod_self_right]
    have e2 : (m + n * 256 ^ (a + 1)) / 256 = m / 256 + n * 256 ^ a := by
      rw [Nat.pow_succ, ← Nat.mul_assoc, Nat.add_mul_div_right _ _ (by omega : 0 < 256)]
    rw [e1, e2, bytesL_append a b (m / 256) n (by rw [Nat.pow_succ] at h; omega)]

theorem bytesL_drop : ∀ (k l n : Nat), (bytesL l n).drop k = bytesL (l - k) (n / 256 ^ k)
  | 0, l, n => by simp
  | k + 1, 0, n => by rw [show 0 - (k + 1) = 0 by omega]; rfl
  | k + 1, l + 1, n => by
    simp only [bytesL, List.drop_succ_cons]
    rw [bytesL_drop k l (n / 256), Nat.div_div_eq_div_mul, Nat.pow_succ, Nat.mul_comm 256]
    congr 1
    omega

theorem bytesL_take : ∀ (k l n : Nat), k ≤ l → (bytesL l n).take k = bytesL k (n % 256 ^ k)
  | 0, l, n, _ => by simp [bytesL]
  | k + 1, 0, n, h => by omega
  | k + 1, l + 1, n, h => by
    simp only [bytesL, List.take_succ_cons]
    rw [bytesL_take k l (n / 256) (by omega)]
    have e1 : n % 256 ^ (k + 1) % 256 = n % 256 := Nat.mod_mod_of_dvd _ (by rw [Nat.pow_succ]; exact Nat.dvd_mul_left _ _)
    have e2 : n % 256 ^ (k + 1) / 256 = n / 256 % 256 ^ k := by
      rw [Nat.pow_succ, Nat.mul_comm (256 ^ k), Nat.mod_mul, Nat.add_mul_div_left _ _ (by omega : 0 < 256), Nat.div_eq_of_lt (Nat.mod_lt _ (by omega)), Nat.zero_add]
    rw [e1, e2]

theorem bytesL_inj : ∀ (l m n : Nat), m < 256 ^ l → n < 256 ^ l → bytesL l m = bytesL l n → m = n
  | 0, m, n, hm, hn, _ => by simp at hm hn; omega
  | l + 1, m, n, hm, hn, h => by
    simp only [bytesL, List.cons.injEq] at h
    have h1 : m % 256 = n % 256 := by
      have := congrArg UInt8.toNat h.1
      simpa using this
    have h2 := bytesL_inj l (m / 256) (n / 256) (by rw [Nat.pow_succ] at hm; omega) (by rw [Nat.pow_succ] at hn; omega) h.2
    omega

theorem packL_lt : ∀ l : List UInt8, packL l < 256 ^ l.length
  | [] => by simp [packL]
  | b :: l => by
    have h1 := packL_lt l
    have h2 : b.toNat < 256 := b.toNat_lt
    simp only [packL, List.length_cons, Nat.pow_succ]
    omega

theorem bytesL_packL : ∀ l : List UInt8, bytesL l.length (packL l) = l
  | [] => rfl
  | b :: l => by
    have h2 : b.toNat < 256 := b.toNat_lt
    simp only [packL, List.length_cons, bytesL]
    have e1 : (b.toNat + 256 * packL l) % 256 = b.toNat := by omega
    have e2 : (b.toNat + 256 * packL l) / 256 = packL l := by omega
    rw [e1, e2, bytesL_packL l]
    simp

theorem unpack_packL (s : ByteArray) : unpack s.size (packL s.data.toList) = s := by
  have : s.size = s.data.toList.length := (Array.length_toList).symm
  unfold unpack
  rw [this, bytesL_packL]

theorem unpack_size (len n : Nat) : (unpack len n).size = len := by
  show (bytesL len n).toArray.size = len
  rw [List.size_toArray, bytesL_length]

/-! ### Values of the text -/

theorem repP_cv {ρ : Nat → Value} (w : World) (L : Nat → Prop) (v : Value) : RepP ρ w L (cv v) v := by
  cases v with
  | int k n => exact .int k n
  | bool b => exact .bool b
  | string s =>
    have h := RepP.ps (ρ := ρ) (w := w) (L := L) s.size (packL s.data.toList) (by
      have := packL_lt s.data.toList
      rwa [Array.length_toList] at this)
    rw [unpack_packL] at h
    exact h
  | _ => exact .sc _

theorem rep_cv {ρ : Nat → Value} (w : World) (L : Nat → Prop) (T : Tab) (v : Value) : Rep ρ w L T (cv v) v := .pure (repP_cv w L v)

theorem Globs.rep {ρ : Nat → Value} {w : World} {L : Nat → Prop} (h : Globs w L) {g : Nat} {vs : List Value} (hg : gdat g = some vs) : RepP ρ w L (.pro (vs.map cv)) (.pointer (some ⟨g, 0, none⟩)) := by
  obtain ⟨h1, h2, h3⟩ := h g vs hg
  refine .pro _ g 0 (fun c => (vs[c]?).getD undef) h1 h2 (fun q hq => ?_) (fun c q hq => ?_) (fun c q hq => ?_)
  · obtain ⟨v, hv, rfl⟩ := List.mem_map.mp hq
    obtain ⟨i, hi, rfl⟩ := List.mem_iff_getElem.mp hv
    exact (h3 i _ (List.getElem?_eq_getElem hi)).1
  · rw [List.getElem?_map] at hq
    obtain ⟨v, hv, rfl⟩ := Option.map_eq_some_iff.mp hq
    rw [Nat.zero_add, (h3 c v hv).2, hv]
    rfl
  · rw [List.getElem?_map] at hq
    obtain ⟨v, hv, rfl⟩ := Option.map_eq_some_iff.mp hq
    rw [hv]
    exact repP_cv w L v

end Go.Proofs.YtibmbbogjkecoaaDoor.M

/- States, what is known of types, and what only looks. -/
namespace Go.Proofs.YtibmbbogjkecoaaDoor.M
open Go Go.RowKit
set_option linter.unusedSimpArgs false
set_option linter.unusedVariables false

variable {ρ : Nat → Value}

/-- Cells of objects: object, row, cell. -/
@[reducible] def CellP : Type := Nat → Nat → Nat → Prop

/-- What is known of a frame: slots by content, objects, the number of the next one, which cells may not be written, what is to be done at the end. -/
structure St where
  n : Nat
  tmps : Nat → V
  objs : Objs
  next : Nat
  defs : List V
  forb : CellP
  ks : Nat → Bool

def St.put (σ : St) (d : Option Tmp) (v : V) : St := match d with
  | some t => { σ with tmps := fun u => if u = t then v else σ.tmps u }
  | none => σ

/-- Where a call began: the world, where its objects lay, which of them may not be written; which slots outlive a panic. -/
structure Ctx where
  w0 : World
  A : Nat → Prop
  T0 : Tab
  objs0 : Objs
  forb : CellP
  ks : Nat → Bool

def Ctx.M (X : Ctx) (b : Nat) : Prop := LiveO X.T0 X.objs0 b

/-- Cells that are as they were. -/
def SameC (T : Tab) (objs : Objs) (C : CellP) (w w' : World) : Prop :=
  ∀ (k r c : Nat) (p : Pl), C k r c → objs k ≠ none → T k = some p → c < p.s → w'.cell? ⟨p.b, p.o + (r * p.s + c), none⟩ = w.cell? ⟨p.b, p.o + (r * p.s + c), none⟩

theorem SameC.refl (T : Tab) (objs : Objs) (C : CellP) (w : World) : SameC T objs C w w := fun _ _ _ _ _ _ _ _ => rfl

theorem SameC.of_blocks {T : Tab} {objs : Objs} {C : CellP} {w w' : World} (hl : ∀ (k : Nat) (p : Pl), T k = some p → p.b < w.heap.size) (h : ∀ b, b < w.heap.size → w'.heap[b]? = w.heap[b]?) : SameC T objs C w w' :=
  fun k r c p _ _ hT _ => cell_of_heap (w := w) (w' := w') (h _ (hl k p hT))

theorem SameC.mono {T : Tab} {objs : Objs} {C C' : CellP} {w w' : World} (h : SameC T objs C' w w') (hC : ∀ k r c, C k r c → C' k r c) : SameC T objs C w w' :=
  fun k r c p h1 h2 h3 h4 => h k r c p (hC _ _ _ h1) h2 h3 h4

theorem SameC.trans' {T T' : Tab} {objs objs' : Objs} {C C' : CellP} {w0 w w' : World} (h : SameC T objs C w0 w) (hC : ∀ k r c, C k r c → C' k r c) (hs : ∀ k r c, C k r c → objs k ≠ none → objs' k ≠ none) (hT : ∀ (k : Nat) (p : Pl), T k = some p → T' k = some p) (h' : SameC T' objs' C' w w') : SameC T objs C w0 w' :=
  fun k r c p h1 h2 h3 h4 => (h' k r c p (hC _ _ _ h1) (hs _ _ _ h1 h2) (hT _ _ h3) h4).trans (h k r c p h1 h2 h3 h4)

/-- What is called at the end: closures without arguments. -/
def RepDefs (ρ : Nat → Value) (w : World) (L : Nat → Prop) (T : Tab) : List V → List Deferred → Prop
  | [], [] => True
  | q :: l, d :: ds => (∃ f caps vs, q = .fn f caps ∧ d = ⟨.fn (.func f) vs, #[]⟩ ∧ Rep ρ w L T q (.func (.func f) #[] vs)) ∧ RepDefs ρ w L T l ds
  | _, _ => False

structure HoldsT (ρ : Nat → Value) (X : Ctx) (T : Tab) (σ : St) (a : Act) (w : World) : Prop where
  pre : ∀ (k : Nat) (p : Pl), X.T0 k = some p → T k = some p
  mem : HoldsM ρ w X.A T σ.objs
  top : ∀ k, σ.next ≤ k → T k = none ∧ σ.objs k = none
  tmp : ∀ (t : Nat), Rep ρ w (Live X.A T σ.objs) T (σ.tmps t) (a.tmps.getD t undef)
  size : a.tmps.size = σ.n
  defers : RepDefs ρ w (Live X.A T σ.objs) T σ.defs a.defers
  keep : Keep X.M X.w0 w
  fresh : ∀ (k : Nat) (p : Pl), X.T0 k = none → T k = some p → X.w0.heap.size ≤ p.b ∨ X.M p.b
  old : ∀ k, X.T0 k ≠ none → σ.objs k ≠ none → X.objs0 k ≠ none
  stay : ∀ k r c, X.forb k r c → X.objs0 k ≠ none → σ.objs k ≠ none
  pc : SameC X.T0 X.objs0 X.forb X.w0 w
  hforb : X.forb = σ.forb
  hks : X.ks = σ.ks

def evalV (σ : St) : Operand → V
  | .tmp t => σ.tmps t
  | .const v => cv v
  | .global g => match gdat g with
    | some vs => .pro (vs.map cv)
    | none => .sc (.pointer (some ⟨g, 0, none⟩))
  | .func f => .fn f []

theorem eval_rep {X : Ctx} {T : Tab} {σ : St} {a : Act} {w : World} (h : HoldsT ρ X T σ a w) (x : Operand) :
    Rep ρ w (Live X.A T σ.objs) T (evalV σ x) (a.eval x) := by
  cases x with
  | tmp t => exact h.tmp t
  | const c => exact rep_cv _ _ _ c
  | global g =>
    show Rep ρ w _ T (match gdat g with | some vs => .pro (vs.map cv) | none => .sc (.pointer (some ⟨g, 0, none⟩))) (.pointer (some ⟨g, 0, none⟩))
    split
    · rename_i vs hg
      exact .pure (h.mem.glob.rep hg)
    · exact .pure (.sc _)
  | func f => exact .fn _ [] #[] rfl (fun i q hq => by simp at hq)

def Stab (N : Nat → Prop) (w w' : World) : Prop := w.heap.size ≤ w'.heap.size ∧ ∀ b, b < w.heap.size → ¬ N b → w'.heap[b]? = w.heap[b]?

theorem Stab.refl (N : Nat → Prop) (w : World) : Stab N w w := ⟨Nat.le_refl _, fun _ _ _ => rfl⟩

/-- An operation that only looks yields v, and goes on doing so while no cell of C is written. -/
def QQ (ρ : Nat → Value) (P : Program) (σ : St) (C : CellP) (o : Oper) (v : V) : Prop :=
  ∀ (X : Ctx) (T : Tab) (a : Act) (w : World), HoldsT ρ X T σ a w → ∃ x, Rep ρ w (Live X.A T σ.objs) T v x ∧
    ∀ w', Stab (Live X.A T σ.objs) w w' → SameC T σ.objs C w w' → (execOp a.eval o).run P w' = .ok (.value x) w'

/-! ### What is known of types -/

inductive Sh where
  | struct (fs : List (Nat × Nat × Bool))
  | slice (e es eb : Nat)
  | string
  | int (k : IntKind)
  | bool
  | other

structure TI where
  size : Nat
  sh : Sh
  zero : List Value

def isAggD : TypeDesc → Bool
  | .struct _ | .array _ _ => true
  | _ => false

def fieldSh (P : Program) (f : Field) : Option (Nat × Nat × Bool) :=
  match P.info? f.type, P.underlying f.type with
  | some i, some d => some (f.offset, i.size, isAggD d)
  | _, _ => none

def shOf (P : Program) (t : TypeId) : Option Sh :=
  match P.underlying t with
  | some (.struct F) => (F.toList.mapM (fieldSh P)).map .struct
  | some (.slice e) => (P.info? e).map fun i => .slice e i.size i.bytes
  | some .string => some .string
  | some (.int k) => some (.int k)
  | some .bool => some .bool
  | some (.array _ _) => none
  | some _ => some .other
  | none => none

structure TyOK (P : Program) (t : TypeId) (ti : TI) : Prop where
  sh : shOf P t = some ti.sh
  size : (P.info? t).map (·.size) = some ti.size
  zero : (P.info? t).map (fun i => i.zero.map fun z => z.cells.toList) = some (some ti.zero)

theorem TyOK.info {P : Program} {t : TypeId} {ti : TI} (h : TyOK P t ti) : ∃ i, P.info? t = some i ∧ i.size = ti.size := by
  have := h.size
  cases hi : P.info? t with
  | none => rw [hi] at this; simp at this
  | some i => rw [hi] at this; exact ⟨i, rfl, by simpa using this⟩

theorem TyOK.sizeOf {P : Program} {t : TypeId} {ti : TI} (h : TyOK P t ti) (w : World) : (sizeOf t).run P w = .ok ti.size w := by
  obtain ⟨i, hi, hs⟩ := h.info
  simp [Go.sizeOf, typeInfo, hi, hs]

theorem TyOK.zeroValue {P : Program} {t : TypeId} {ti : TI} (h : TyOK P t ti) : ∃ z : Value, z.cells.toList = ti.zero ∧ ∀ w, (zeroValue t).run P w = .ok z w := by
  have := h.zero
  cases hi : P.info? t with
  | none => rw [hi] at this; simp at this
  | some i =>
    rw [hi] at this
    cases hz : i.zero with
    | none => simp [hz] at this
    | some z => exact ⟨z, by simpa [hz] using this, fun w => by simp [Go.zeroValue, typeInfo, hi, hz]⟩

/-- The fields of a struct, one by one. -/
theorem struct_of {P : Program} {t : TypeId} {ti : TI} (h : TyOK P t ti) {fs : List (Nat × Nat × Bool)} (hs : ti.sh = .struct fs) :
    ∃ F : Array Field, P.underlying t = some (.struct F) ∧ ∀ (i off size : Nat) (g : Bool), fs[i]? = some (off, size, g) →
      ∃ f j d, F[i]? = some f ∧ f.offset = off ∧ P.info? f.type = some j ∧ j.size = size ∧ P.underlying f.type = some d ∧ isAggD d = g := by
  have h1 := h.sh
  unfold shOf at h1
  rw [hs] at h1
  cases hu : P.underlying t with
  | none => rw [hu] at h1; simp at h1
  | some d =>
    rw [hu] at h1
    cases d with
    | struct F =>
      refine ⟨F, rfl, fun i off size g hi => ?_⟩
      simp only [Option.map_eq_some_iff] at h1
      obtain ⟨l, hl, hle⟩ := h1
      injection hle with hle
      subst hle
      have key : ∀ (L : List Field) (l : List (Nat × Nat × Bool)), L.mapM (fieldSh P) = some l → ∀ (i off size : Nat) (g : Bool), l[i]? = some (off, size, g) →
          ∃ f j d, L[i]? = some f ∧ f.offset = off ∧ P.info? f.type = some j ∧ j.size = size ∧ P.underlying f.type = some d ∧ isAggD d = g := by
        intro L
        induction L with
        | nil => intro l hl i off size g hi; simp at hl; subst hl; simp at hi
        | cons f L ih =>
          intro l hl i off size g hi
          rw [List.mapM_cons] at hl
          simp only [Option.pure_def, Option.bind_eq_bind, Option.bind_eq_some_iff] at hl
          obtain ⟨y, hy, l', hl', hle⟩ := hl
          injection hle with hle
          subst hle
          cases i with
          | zero =>
            simp at hi
            subst hi
            unfold fieldSh at hy
            split at hy
            · rename_i j d hj hd
              injection hy with hy
              injection hy with e1 e2
              injection e2 with e2 e3
              exact ⟨f, j, d, rfl, e1, hj, e2, hd, e3⟩
            · cases hy
          | succ i =>
            simp at hi
            obtain ⟨f', j', d', h1, h2⟩ := ih l' hl' i off size g hi
            exact ⟨f', j', d', by simpa using h1, h2⟩
      obtain ⟨f, j, d, h1, h2⟩ := key F.toList l hl i off size g hi
      exact ⟨f, j, d, by simpa using h1, h2⟩
    | slice e => simp at h1
    | invalid => simp at h1
    | bool => simp at h1
    | int k => simp at h1
    | float k => simp at h1
    | complex k => simp at h1
    | string => simp at h1
    | unsafePointer => simp at h1
    | pointer e => simp at h1
    | array n e => simp at h1
    | map k e => simp at h1
    | chan d e => simp at h1
    | func a b c => simp at h1
    | interface m => simp at h1
    | tuple e => simp at h1
    | named a b => simp at h1

theorem slice_of {P : Program} {t : TypeId} {ti : TI} (h : TyOK P t ti) {e es eb : Nat} (hs : ti.sh = .slice e es eb) :
    P.underlying t = some (.slice e) ∧ ∃ i, P.info? e = some i ∧ i.size = es ∧ i.bytes = eb := by
  have h1 := h.sh
  unfold shOf at h1
  rw [hs] at h1
  cases hu : P.underlying t with
  | none => rw [hu] at h1; simp at h1
  | some d =>
    rw [hu] at h1
    cases d with
    | slice e' =>
      simp only [Option.map_eq_some_iff] at h1
      obtain ⟨i, hi, he⟩ := h1
      injection he with a b c
      subst a
      exact ⟨rfl, i, hi, b, c⟩
    | struct F => simp only [Option.map_eq_some_iff] at h1; obtain ⟨l, _, he⟩ := h1; cases he
    | invalid => simp at h1
    | bool => simp at h1
    | int k => simp at h1
    | float k => simp at h1
    | complex k => simp at h1
    | string => simp at h1
    | unsafePointer => simp at h1
    | pointer e => simp at h1
    | array n e => simp at h1
    | map k e => simp at h1
    | chan d e => simp at h1
    | func a b c => simp at h1
    | interface m => simp at h1
    | tuple e => simp at h1
    | named a b => simp at h1

def Sh.agg : Sh → Bool
  | .struct _ => true
  | _ => false

theorem TyOK.isAgg {P : Program} {t : TypeId} {ti : TI} (h : TyOK P t ti) (w : World) : (isAgg t).run P w = .ok ti.sh.agg w := by
  have h1 := h.sh
  unfold shOf at h1
  cases hu : P.underlying t with
  | none => rw [hu] at h1; simp at h1
  | some d =>
    rw [hu] at h1
    cases d <;> simp at h1 <;> simp [Go.isAgg, underlying, hu] <;>
      first
        | (rw [← h1]; rfl)
        | (obtain ⟨l, _, he⟩ := h1; rw [← he]; rfl)

/-! ### Small laws on addresses -/

theorem add_at (b o n : Nat) : (⟨b, o, none⟩ : Addr).add n = ⟨b, o + n, none⟩ := by
  unfold Addr.add
  split
  · rename_i h; subst h; rfl
  · rfl

theorem cell_stab {N : Nat → Prop} {w w' : World} (h : Stab N w w') {a : Addr} {v : Value} (hc : w.cell? a = some v) (hn : ¬ N a.block) : w'.cell? a = some v := by
  have hb : a.block < w.heap.size := World.block_lt_of_cell? w a hc
  rw [cell_of_heap (w := w) (h.2 _ hb hn)]
  exact hc

theorem getD_of {vs : Array Value} {i : Nat} {y d : Value} (h : vs[i]? = some y) : vs.getD i d = y := by
  rw [Array.getD_eq_getD_getElem?, h]; rfl

theorem lt_of_get {α : Type} {l : List α} {k : Nat} {x : α} (h : l[k]? = some x) : k < l.length := by
  rcases Nat.lt_or_ge k l.length with g | g
  · exact g
  · rw [List.getElem?_eq_none g] at h; cases h

def evalL (σ : St) : List Operand → List V
  | [] => []
  | x :: xs => evalV σ x :: evalL σ xs

theorem evalL_eq (σ : St) : ∀ xs : List Operand, evalL σ xs = xs.map (evalV σ)
  | [] => rfl
  | x :: xs => by simp [evalL, evalL_eq σ xs]

theorem string_of {P : Program} {t : TypeId} {ti : TI} (h : TyOK P t ti) (hs : ti.sh = .string) : P.underlying t = some .string := by
  have h1 := h.sh
  unfold shOf at h1
  rw [hs] at h1
  cases hu : P.underlying t with
  | none => rw [hu] at h1; simp at h1
  | some d => rw [hu] at h1; cases d <;> simp at h1 <;> rfl

theorem int_of {P : Program} {t : TypeId} {ti : TI} (h : TyOK P t ti) {k : IntKind} (hs : ti.sh = .int k) : P.underlying t = some (.int k) := by
  have h1 := h.sh
  unfold shOf at h1
  rw [hs] at h1
  cases hu : P.underlying t with
  | none => rw [hu] at h1; simp at h1
  | some d => rw [hu] at h1; cases d <;> simp at h1 <;> simp [h1]

theorem bool_of {P : Program} {t : TypeId} {ti : TI} (h : TyOK P t ti) (hs : ti.sh = .bool) : P.underlying t = some .bool := by
  have h1 := h.sh
  unfold shOf at h1
  rw [hs] at h1
  cases hu : P.underlying t with
  | none => rw [hu] at h1; simp at h1
  | some d => rw [hu] at h1; cases d <;> simp at h1 <;> rfl

end Go.Proofs.YtibmbbogjkecoaaDoor.M

/- The operations that only look, one by one. -/
namespace Go.Proofs.YtibmbbogjkecoaaDoor.M
open Go Go.RowKit
set_option linter.unusedSimpArgs false
set_option linter.unusedVariables false

variable {ρ : Nat → Value}

section quiet
variable {P : Program} {σ : St} {C : CellP} {o : Oper}

theorem qq_move {x : Operand} (ho : o.op = .move x ∨ o.op = .assign x) : QQ ρ P σ C o (evalV σ x) := by
  intro X T a w h
  refine ⟨a.eval x, eval_rep h x, fun w' _ => ?_⟩
  rcases ho with ho | ho <;> simp [execOp, ho]

theorem qq_pick {c x y : Operand} {t : Bool} (ho : o.op = .pick c x y) (hc : evalV σ c = .bool t) : QQ ρ P σ C o (match t with | true => evalV σ x | false => evalV σ y) := by
  intro X T a w h
  have hb := eval_rep h c
  rw [hc] at hb
  have hb := rep_bool hb
  cases t with
  | true => exact ⟨a.eval x, eval_rep h x, fun w' _ => by simp [execOp, ho, hb, asBool]⟩
  | false => exact ⟨a.eval y, eval_rep h y, fun w' _ => by simp [execOp, ho, hb, asBool]⟩

/-- What is surely not nil. -/
def V.there : V → Bool
  | .ptr _ _ _ | .pro _ | .fn _ _ => true
  | .sc (.pointer (some _)) => true
  | _ => false

theorem qq_nilCheck {x : Operand} {v : V} (ho : o.op = .nilCheck x) (hx : evalV σ x = v) (hv : v.there = true) : QQ ρ P σ C o v := by
  intro X T a w h
  have hr := eval_rep h x
  rw [hx] at hr
  refine ⟨a.eval x, hr, fun w' _ => ?_⟩
  cases v with
  | ptr k r c => obtain ⟨p, _, e⟩ := rep_ptr hr; simp [execOp, ho, e]
  | pro cells => obtain ⟨b, s, _, e, _⟩ := rep_pro hr; simp [execOp, ho, e]
  | fn f l => obtain ⟨vs, e, _⟩ := rep_fn hr; simp [execOp, ho, e]
  | sc y =>
    have e := rep_sc hr
    cases y with
    | pointer p => cases p with
      | none => simp [V.there] at hv
      | some p => simp [execOp, ho, e]
    | _ => simp [V.there] at hv
  | _ => simp [V.there] at hv

theorem qq_extract {x : Operand} {i : Nat} {l : List V} {v : V} (ho : o.op = .extract x i) (hx : evalV σ x = .tup l) (hv : l[i]? = some v) : QQ ρ P σ C o v := by
  intro X T a w h
  have hr0 := eval_rep h x
  rw [hx] at hr0
  obtain ⟨vs, e, hs, hr⟩ := rep_tup hr0
  have hi := lt_of_get hv
  have hg := hr i v hv
  obtain ⟨y, hy⟩ : ∃ y, vs[i]? = some y := ⟨_, Array.getElem?_eq_getElem (show i < vs.size by omega)⟩
  rw [getD_of hy] at hg
  refine ⟨y, hg, fun w' _ => ?_⟩
  simp [execOp, ho, e, Instr.extract, hy]

theorem qq_not {x : Operand} {t : Bool} {ty : TypeId} (ho : o.op = .unOp .not ty x) (hx : evalV σ x = .bool t) : QQ ρ P σ C o (.bool (!t)) := by
  intro X T a w h
  have hr := eval_rep h x
  rw [hx] at hr
  exact ⟨_, .pure (.bool _), fun w' _ => by simp [execOp, ho, rep_bool hr, Op.unary]⟩

theorem ev_rep {X : Ctx} {T : Tab} {a : Act} {w : World} (h : HoldsT ρ X T σ a w) {x : Operand} {v : V} (hx : evalV σ x = v) : Rep ρ w (Live X.A T σ.objs) T v (a.eval x) := by
  subst hx
  exact eval_rep h x

theorem qq_makeBnd {f : FuncId} {first : Array Operand} (ho : o.op = .makeFunc (.func f) first #[]) : QQ ρ P σ C o (.bnd f (evalL σ first.toList)) := by
  intro X T a w h
  refine ⟨.func (.func f) (first.map a.eval) #[], .bnd f _ _ (by simp [evalL_eq]) fun i q hq => ?_, fun w' _ => by simp [execOp, ho, Instr.makeFunc]⟩
  rw [evalL_eq, List.getElem?_map] at hq
  simp only [Option.map_eq_some_iff] at hq
  obtain ⟨y, hy, rfl⟩ := hq
  rw [Array.getElem?_toList] at hy
  have : (first.map a.eval)[i]? = some (a.eval y) := by simp [hy]
  rw [getD_of this]
  exact eval_rep h y

theorem qq_makeFunc {f : FuncId} {caps : Array Operand} (ho : o.op = .makeFunc (.func f) #[] caps) : QQ ρ P σ C o (.fn f (evalL σ caps.toList)) := by
  intro X T a w h
  refine ⟨.func (.func f) #[] (caps.map a.eval), .fn f _ _ (by simp [evalL_eq]) fun i q hq => ?_, fun w' _ => by simp [execOp, ho, Instr.makeFunc]⟩
  rw [evalL_eq, List.getElem?_map] at hq
  simp only [Option.map_eq_some_iff] at hq
  obtain ⟨y, hy, rfl⟩ := hq
  have : (caps.map a.eval)[i]? = some (a.eval y) := by
    rw [Array.getElem?_map]
    rw [Array.getElem?_toList] at hy
    rw [hy]
    rfl
  rw [getD_of this]
  exact eval_rep h y

theorem qq_fieldAddr_ptr {x : Operand} {t : TypeId} {i : Nat} {ti : TI} {fs : List (Nat × Nat × Bool)} {off n : Nat} {g : Bool} {k r c : Nat} (ho : o.op = .fieldAddr t x i)
    (hx : evalV σ x = .ptr k r c) (ht : TyOK P t ti) (hs : ti.sh = .struct fs) (hi : fs[i]? = some (off, n, g)) (hn : n ≠ 0) : QQ ρ P σ C o (.ptr k r (c + off)) := by
  intro X T a w h
  obtain ⟨p, h1, e⟩ := rep_ptr (ev_rep h hx)
  obtain ⟨F, hF, hall⟩ := struct_of ht hs
  obtain ⟨f, j, d, h2, h3, h4, h5, h6, h7⟩ := hall i off n g hi
  refine ⟨_, .ptr k r (c + off) p h1, fun w' _ => ?_⟩
  have hz : j.size ≠ 0 := by omega
  simp [execOp, ho, e, Instr.fieldAt, run_underlying hF, h2, Instr.sureAddr, fieldPlace, Go.sizeOf, typeInfo, h4, hz, add_at, h3, Nat.add_assoc]

theorem qq_fieldAddr_pro {x : Operand} {t : TypeId} {i : Nat} {ti : TI} {fs : List (Nat × Nat × Bool)} {off n : Nat} {g : Bool} {cells : List V} (ho : o.op = .fieldAddr t x i)
    (hx : evalV σ x = .pro cells) (ht : TyOK P t ti) (hs : ti.sh = .struct fs) (hi : fs[i]? = some (off, n, g)) (hn : n ≠ 0) :
    QQ ρ P σ C o (.pro (cells.drop off)) := by
  intro X T a w h
  obtain ⟨b, p, val, e, h1, h1', h1o, hc, hr⟩ := rep_pro (ev_rep h hx)
  obtain ⟨F, hF, hall⟩ := struct_of ht hs
  obtain ⟨f, j, d, h2, h3, h4, h5, h6, h7⟩ := hall i off n g hi
  refine ⟨.pointer (some ⟨b, p + off, none⟩), .pure (.pro _ b (p + off) (fun c => val (off + c)) h1 h1' (fun q hq => h1o q (List.mem_of_mem_drop hq)) ?_ ?_), fun w' _ => ?_⟩
  · intro c q hq
    rw [List.getElem?_drop] at hq
    rw [← hc _ q hq, Nat.add_assoc]
  · intro c q hq
    rw [List.getElem?_drop] at hq
    exact hr _ q hq
  · have hz : j.size ≠ 0 := by omega
    simp [execOp, ho, e, Instr.fieldAt, run_underlying hF, h2, Instr.sureAddr, fieldPlace, Go.sizeOf, typeInfo, h4, hz, add_at, h3]

/-- The cells of an object's row, one by one. -/
theorem row_cells {X : Ctx} {T : Tab} {a : Act} {w : World} (h : HoldsT ρ X T σ a w) {k r : Nat} {ob : Ob} {row : List V} (ho : σ.objs k = some ob) (hm : ob.mp = false) (hr : ob.row r = some row) :
    ∃ p, T k = some p ∧ p.s = ob.s ∧ row.length = ob.s ∧ (∀ q ∈ row, q.one = true) ∧
      ∀ (c : Nat) (q : V), row[c]? = some q → ∃ v, w.cell? ⟨p.b, p.o + (r * p.s + c), none⟩ = some v ∧ Rep ρ w (Live X.A T σ.objs) T q v := by
  obtain ⟨p, hT, _, hs, hcs, _⟩ := h.mem.obj k ob ho
  obtain ⟨C, t, hb, hrows⟩ := hcs hm
  obtain ⟨h1, h2, h3⟩ := hrows r row hr
  refine ⟨p, hT, hs, h1, h2, fun c q hq => ?_⟩
  obtain ⟨v, hv, hrep⟩ := h3 c q hq
  exact ⟨v, by simp [World.cell?, hb, hv], hrep⟩

theorem qq_load_word {x : Operand} {t : TypeId} {ti : TI} {k r c : Nat} {ob : Ob} {row : List V} {q : V} (ho : o.op = .load t x)
    (hx : evalV σ x = .ptr k r c) (ht : TyOK P t ti) (hs : ti.sh.agg = false) (hk : C k r c) (hob : σ.objs k = some ob) (hmp : ob.mp = false) (hrow : ob.row r = some row) (hq : row[c]? = some q) :
    QQ ρ P σ C o q := by
  intro X T a w h
  obtain ⟨p, h1, e⟩ := rep_ptr (ev_rep h hx)
  obtain ⟨p', hT, hps, hlen, hone, hcells⟩ := row_cells h hob hmp hrow
  rw [hT] at h1
  cases h1
  obtain ⟨v, hv, hrep⟩ := hcells c q hq
  refine ⟨v, hrep, fun w' hw hsm => ?_⟩
  have hlt := lt_of_get hq
  have hv' := (hsm k r c p hk (by rw [hob]; simp) hT (by omega)).trans hv
  simp [execOp, ho, e, Instr.loadAt, Instr.sureAddr, loadVar, ht.isAgg, hs, hv']

theorem cells_fn {w : World} {b p : Nat} {l : List V} {R : V → Value → Prop} (hl : ∀ (c : Nat) (q : V), l[c]? = some q → ∃ v, w.cell? ⟨b, p + c, none⟩ = some v ∧ R q v) :
    ∃ val : Nat → Value, ∀ (c : Nat) (q : V), l[c]? = some q → w.cell? ⟨b, p + c, none⟩ = some (val c) ∧ R q (val c) := by
  refine ⟨fun c => if hc : c < l.length then (hl c l[c] (List.getElem?_eq_getElem hc)).choose else undef, fun c q hq => ?_⟩
  have hc := lt_of_get hq
  have hq' : q = l[c] := by rw [List.getElem?_eq_getElem hc] at hq; cases hq; rfl
  subst hq'
  simp only [hc, dif_pos]
  exact (hl c l[c] (List.getElem?_eq_getElem hc)).choose_spec

theorem made_list {l : List V} {n : Nat} (hn : l.length = n) {val : Nat → Value} {R : V → Value → Prop} (h : ∀ (c : Nat) (q : V), l[c]? = some q → R q (val c)) :
    (((List.range n).map val).toArray).size = l.length ∧ ∀ (i : Nat) (q : V), l[i]? = some q → R q ((((List.range n).map val).toArray).getD i undef) := by
  refine ⟨by simp [hn], fun i q hq => ?_⟩
  have hi : i < n := by have := lt_of_get hq; omega
  have : (((List.range n).map val).toArray)[i]? = some (val i) := by simp [hi]
  rw [getD_of this]
  exact h i q hq

theorem sub_cells {row l : List V} {c n : Nat} (hl : (row.drop c).take n = l) (i : Nat) (q : V) (hq : l[i]? = some q) : row[c + i]? = some q := by
  rw [← hl, List.getElem?_take] at hq
  split at hq
  · rwa [List.getElem?_drop] at hq
  · cases hq

theorem qq_load_agg {x : Operand} {t : TypeId} {ti : TI} {k r c : Nat} {ob : Ob} {row l : List V} (ho : o.op = .load t x)
    (hx : evalV σ x = .ptr k r c) (ht : TyOK P t ti) (hs : ti.sh.agg = true) (hk : ∀ j, j < ti.size → C k r (c + j)) (hob : σ.objs k = some ob) (hmp : ob.mp = false) (hrow : ob.row r = some row)
    (hl : (row.drop c).take ti.size = l) (hn : l.length = ti.size) : QQ ρ P σ C o (.agg l) := by
  intro X T a w h
  obtain ⟨p, h1, e⟩ := rep_ptr (ev_rep h hx)
  obtain ⟨p', hT, hps, hlen, hone, hcells⟩ := row_cells h hob hmp hrow
  rw [hT] at h1
  cases h1
  obtain ⟨val, hval⟩ := cells_fn (w := w) (b := p.b) (p := p.o + (r * p.s + c)) (l := l) (R := Rep ρ w (Live X.A T σ.objs) T)
    (fun i q hq => by rw [Nat.add_assoc, Nat.add_assoc]; exact hcells _ q (sub_cells hl i q hq))
  obtain ⟨g1, g2⟩ := made_list hn (R := Rep ρ w (Live X.A T σ.objs) T) (val := val) (fun i q hq => (hval i q hq).2)
  refine ⟨_, .agg l _ g1 g2, fun w' hw hsm => ?_⟩
  have hrun := run_loadCells (P := P) w' ⟨p.b, p.o + (r * p.s + c), none⟩ ti.size val (fun j hj => by
    have hq : l[j]? = some l[j] := List.getElem?_eq_getElem (by omega)
    rw [add_at]
    have hlt := lt_of_get (sub_cells hl j _ hq)
    have := hsm k r (c + j) p (hk j hj) (by rw [hob]; simp) hT (by omega)
    rw [show p.o + (r * p.s + c) + j = p.o + (r * p.s + (c + j)) by omega, this]
    have h9 := (hval j _ hq).1
    rwa [show p.o + (r * p.s + c) + j = p.o + (r * p.s + (c + j)) by omega] at h9)
  simp [execOp, ho, e, Instr.loadAt, Instr.sureAddr, loadVar, ht.isAgg, hs, ht.sizeOf, hrun]

theorem qq_load_word_pro {x : Operand} {t : TypeId} {ti : TI} {cells : List V} {q : V} (ho : o.op = .load t x)
    (hx : evalV σ x = .pro cells) (ht : TyOK P t ti) (hs : ti.sh.agg = false) (hq : cells[0]? = some q) : QQ ρ P σ C o q := by
  intro X T a w h
  obtain ⟨b, p, val, e, h1, h1', h1o, hc, hr⟩ := rep_pro (ev_rep h hx)
  refine ⟨val 0, .pure (hr 0 q hq), fun w' hw hsm => ?_⟩
  have hv' := cell_stab hw (hc 0 q hq) h1
  simp only [Nat.add_zero] at hv'
  simp [execOp, ho, e, Instr.loadAt, Instr.sureAddr, loadVar, ht.isAgg, hs, hv']

theorem qq_load_agg_pro {x : Operand} {t : TypeId} {ti : TI} {cells l : List V} (ho : o.op = .load t x)
    (hx : evalV σ x = .pro cells) (ht : TyOK P t ti) (hs : ti.sh.agg = true) (hl : cells.take ti.size = l) (hn : l.length = ti.size) : QQ ρ P σ C o (.agg l) := by
  intro X T a w h
  obtain ⟨b, p, val, e, h1, h1', h1o, hc, hr⟩ := rep_pro (ev_rep h hx)
  have hsub : ∀ (i : Nat) (q : V), l[i]? = some q → cells[i]? = some q := fun i q hq => by
    have := sub_cells (row := cells) (c := 0) (by simpa using hl) i q hq
    simpa using this
  obtain ⟨g1, g2⟩ := made_list hn (R := Rep ρ w (Live X.A T σ.objs) T) (val := val) (fun i q hq => .pure (hr i q (hsub i q hq)))
  refine ⟨_, .agg l _ g1 g2, fun w' hw hsm => ?_⟩
  have hrun := run_loadCells (P := P) w' ⟨b, p, none⟩ ti.size val (fun j hj => by
    have hq : l[j]? = some l[j] := List.getElem?_eq_getElem (by omega)
    rw [add_at]
    exact cell_stab hw (hc j _ (hsub j _ hq)) h1)
  simp [execOp, ho, e, Instr.loadAt, Instr.sureAddr, loadVar, ht.isAgg, hs, ht.sizeOf, hrun]

theorem qq_field_word {x : Operand} {t : TypeId} {i : Nat} {ti : TI} {fs : List (Nat × Nat × Bool)} {off n : Nat} {l : List V} {q : V} (ho : o.op = .field t x i)
    (hx : evalV σ x = .agg l) (ht : TyOK P t ti) (hs : ti.sh = .struct fs) (hi : fs[i]? = some (off, n, false)) (hq : l[off]? = some q) : QQ ρ P σ C o q := by
  intro X T a w h
  obtain ⟨vs, e, h1, h2⟩ := rep_agg (ev_rep h hx)
  obtain ⟨F, hF, hall⟩ := struct_of ht hs
  obtain ⟨f, j, d, g2, g3, g4, g5, g6, g7⟩ := hall i off n false hi
  have hr := h2 off q hq
  obtain ⟨y, hy⟩ : ∃ y, vs[off]? = some y := ⟨_, Array.getElem?_eq_getElem (by have := lt_of_get hq; omega)⟩
  rw [getD_of hy] at hr
  refine ⟨y, hr, fun w' hw hsm => ?_⟩
  have hagg : (isAgg f.type).run P w' = .ok false w' := by
    simp [Go.isAgg, underlying, g6]
    cases d <;> first | rfl | simp [isAggD] at g7
  simp [execOp, ho, e, Instr.field, run_underlying hF, g2, asAgg, part, hagg, g3, hy]

theorem qq_field_agg {x : Operand} {t : TypeId} {i : Nat} {ti : TI} {fs : List (Nat × Nat × Bool)} {off n : Nat} {l m : List V} (ho : o.op = .field t x i)
    (hx : evalV σ x = .agg l) (ht : TyOK P t ti) (hs : ti.sh = .struct fs) (hi : fs[i]? = some (off, n, true)) (hm : (l.drop off).take n = m) (hn : m.length = n) : QQ ρ P σ C o (.agg m) := by
  intro X T a w h
  obtain ⟨vs, e, h1, h2⟩ := rep_agg (ev_rep h hx)
  obtain ⟨F, hF, hall⟩ := struct_of ht hs
  obtain ⟨f, j, d, g2, g3, g4, g5, g6, g7⟩ := hall i off n true hi
  have hlen : off + n ≤ l.length ∨ n = 0 := by
    rw [← hm] at hn
    simp only [List.length_take, List.length_drop] at hn
    omega
  refine ⟨.agg (vs.extract off (off + n)), .agg m _ (by rw [Array.size_extract]; omega) fun i q hq => ?_, fun w' hw hsm => ?_⟩
  · have hq' := sub_cells hm i q hq
    have hr := h2 _ q hq'
    have hi' := lt_of_get hq
    have : (vs.extract off (off + n))[i]? = vs[off + i]? := by
      rw [Array.getElem?_extract]
      simp only [ite_eq_left_iff, Nat.not_lt]
      intro hge
      have := lt_of_get hq'
      omega
    rw [Array.getD_eq_getD_getElem?, this, ← Array.getD_eq_getD_getElem?]
    exact hr
  · have hagg : (isAgg f.type).run P w' = .ok true w' := by
      simp [Go.isAgg, underlying, g6]
      cases d <;> first | rfl | simp [isAggD] at g7
    simp [execOp, ho, e, Instr.field, run_underlying hF, g2, asAgg, part, hagg, g3, Go.sizeOf, typeInfo, g4, g5]

/-! ### len -/

def isLen (o : Oper) (x : Operand) (t : TypeId) : Prop := o.op = .call { callee := .builtin .len, args := #[x], argTypes := #[t] }

theorem qq_len_ro {x : Operand} {t : TypeId} {ti : TI} {e es eb s : Nat} {rows : List (List V)} (ho : isLen o x t)
    (hx : evalV σ x = .ro s rows) (ht : TyOK P t ti) (hs : ti.sh = .slice e es eb) : QQ ρ P σ C o (.int .i64 rows.length) := by
  intro X T a w h
  have ho : o.op = _ := ho
  have hu := (slice_of ht hs).1
  refine ⟨.int .i64 rows.length, .pure (.int _ _), fun w' hw hsm => ?_⟩
  rcases rep_ro (ev_rep h hx) with ⟨e1, e2⟩ | ⟨b, p, cap, val, e1, _⟩
  · subst e2
    simp [execOp, ho, resolve, e1, invoke, builtin, Builtin.len_, run_underlying hu, goInt]
  · simp [execOp, ho, resolve, e1, invoke, builtin, Builtin.len_, run_underlying hu, goInt]

theorem qq_len_sl {x : Operand} {t : TypeId} {ti : TI} {e es eb k off len : Nat} {full : Bool} (ho : isLen o x t)
    (hx : evalV σ x = .sl k off len full) (ht : TyOK P t ti) (hs : ti.sh = .slice e es eb) : QQ ρ P σ C o (.int .i64 len) := by
  intro X T a w h
  have ho : o.op = _ := ho
  have hu := (slice_of ht hs).1
  obtain ⟨p, at_, cap, _, _, _, _, _, e1⟩ := rep_sl (ev_rep h hx)
  exact ⟨.int .i64 len, .pure (.int _ _), fun w' hw hsm => by simp [execOp, ho, resolve, e1, invoke, builtin, Builtin.len_, run_underlying hu, goInt]⟩

theorem qq_len_nil {x : Operand} {t : TypeId} {ti : TI} {e es eb : Nat} (ho : isLen o x t)
    (hx : evalV σ x = .sc (.slice none 0 0)) (ht : TyOK P t ti) (hs : ti.sh = .slice e es eb) : QQ ρ P σ C o (.int .i64 0) := by
  intro X T a w h
  have ho : o.op = _ := ho
  have hu := (slice_of ht hs).1
  have e1 := rep_sc (ev_rep h hx)
  exact ⟨.int .i64 0, .pure (.int _ _), fun w' hw hsm => by simp [execOp, ho, resolve, e1, invoke, builtin, Builtin.len_, run_underlying hu, goInt]⟩

theorem qq_len_ps {x : Operand} {t : TypeId} {ti : TI} {len n : Nat} (ho : isLen o x t)
    (hx : evalV σ x = .ps len n) (ht : TyOK P t ti) (hs : ti.sh = .string) : QQ ρ P σ C o (.int .i64 len) := by
  intro X T a w h
  have ho : o.op = _ := ho
  have hu := string_of ht hs
  have e1 := (rep_ps (ev_rep h hx)).1
  exact ⟨.int .i64 len, .pure (.int _ _), fun w' hw hsm => by simp [execOp, ho, resolve, e1, invoke, builtin, Builtin.len_, run_underlying hu, goInt, unpack_size]⟩

theorem qq_len_str {x : Operand} {t : TypeId} {ti : TI} {s : ByteArray} (ho : isLen o x t)
    (hx : evalV σ x = .sc (.string s)) (ht : TyOK P t ti) (hs : ti.sh = .string) : QQ ρ P σ C o (.int .i64 s.size) := by
  intro X T a w h
  have ho : o.op = _ := ho
  have hu := string_of ht hs
  have e1 := rep_sc (ev_rep h hx)
  exact ⟨.int .i64 s.size, .pure (.int _ _), fun w' hw hsm => by simp [execOp, ho, resolve, e1, invoke, builtin, Builtin.len_, run_underlying hu, goInt]⟩

/-! ### Elements -/

theorem qq_indexAddr_sl {x y : Operand} {t : TypeId} {ti : TI} {e es eb k off len : Nat} {full : Bool} {kd : IntKind} {i : Nat} {ob : Ob} (ho : o.op = .indexAddr t x y)
    (hx : evalV σ x = .sl k off len full) (hy : evalV σ y = .int kd (.ofNat i)) (ht : TyOK P t ti) (hs : ti.sh = .slice e es eb)
    (hob : σ.objs k = some ob) (hst : ob.s = es) (hi : i < len) : QQ ρ P σ C o (.ptr k (off + i) 0) := by
  intro X T a w h
  obtain ⟨hu, j, hj, hjs, hjb⟩ := slice_of ht hs
  obtain ⟨p, at_, cap, hT, ha, hc, hf, hroom, e1⟩ := rep_sl (ev_rep h hx)
  have e2 := rep_int (ev_rep h hy)
  obtain ⟨p', hT', _, hs', _⟩ := h.mem.obj k ob hob
  rw [hT] at hT'
  cases hT'
  refine ⟨_, .ptr k (off + i) 0 p hT, fun w' hw hsm => ?_⟩
  have hes : j.size = p.s := by omega
  have hat : at_ = p.o + off * p.s := by omega
  have hi' : (i : Int) < len := by omega
  simp [execOp, ho, e1, e2, Instr.indexAt, asIntOf, run_underlying hu, Go.sizeOf, typeInfo, hj, hes, hi, hi', add_at, Nat.add_mul, hat, Nat.add_assoc]

theorem qq_indexAddr_ro {x y : Operand} {t : TypeId} {ti : TI} {e es eb : Nat} {kd : IntKind} {i : Nat} {rows : List (List V)} {row : List V} (ho : o.op = .indexAddr t x y)
    (hx : evalV σ x = .ro es rows) (hy : evalV σ y = .int kd (.ofNat i)) (ht : TyOK P t ti) (hs : ti.sh = .slice e es eb)
    (hrow : rows[i]? = some row) : QQ ρ P σ C o (.pro row) := by
  intro X T a w h
  obtain ⟨hu, j, hj, hjs, hjb⟩ := slice_of ht hs
  have e2 := rep_int (ev_rep h hy)
  have hlt := lt_of_get hrow
  rcases rep_ro (ev_rep h hx) with ⟨e1, g2⟩ | ⟨b, p, cap, val, e1, h1, h2, h3, h4, h5, h6⟩
  · subst g2; simp at hlt
  · refine ⟨.pointer (some ⟨b, p + i * es, none⟩), .pure (.pro _ b _ (fun c => val i c) h1 h2 (h4 row (List.mem_of_getElem? hrow)).2 ?_ ?_), fun w' hw hsm => ?_⟩
    · intro c q hq
      rw [Nat.add_assoc]
      exact h5 _ row hrow c q hq
    · exact fun c q hq => h6 _ row hrow c q hq
    · have hi : (i : Int) < (rows.length : Int) := by omega
      simp [execOp, ho, e1, e2, Instr.indexAt, asIntOf, run_underlying hu, Go.sizeOf, typeInfo, hj, hjs, hi, hlt, add_at]

theorem qq_index_ps {x y : Operand} {t : TypeId} {ti : TI} {kd : IntKind} {i len n : Nat} (ho : o.op = .index t x y)
    (hx : evalV σ x = .ps len n) (hy : evalV σ y = .int kd (.ofNat i)) (ht : TyOK P t ti) (hs : ti.sh = .string)
    (hi : i < len) : QQ ρ P σ C o (.int .u8 ((n / 256 ^ i % 256 : Nat) : Int)) := by
  intro X T a w h
  have hu := string_of ht hs
  have e1 := (rep_ps (ev_rep h hx)).1
  have e2 := rep_int (ev_rep h hy)
  have hc : (unpack len n)[i]? = some (UInt8.ofNat (n / 256 ^ i % 256)) := by
    have h1 := bytesL_get len n i hi
    have : i < (unpack len n).size := by rw [unpack_size]; exact hi
    rw [getElem?_pos (unpack len n) i this]
    congr 1
    have h2 : (bytesL len n)[i]? = some ((bytesL len n)[i]'(by rw [bytesL_length]; exact hi)) := List.getElem?_eq_getElem _
    rw [h2] at h1
    exact Option.some.inj h1
  refine ⟨.int .u8 ((n / 256 ^ i % 256 : Nat) : Int), .pure (.int _ _), fun w' hw hsm => ?_⟩
  have hn : (UInt8.ofNat (n / 256 ^ i % 256)).toNat = n / 256 ^ i % 256 := by simp
  simp [execOp, ho, e1, e2, Instr.index, asIntOf, run_underlying hu, hc]

/-! ### Of two -/

/-- Of two whole numbers. -/
def binI (op : BinOp) (k : IntKind) (x y : Int) : Option V :=
  match op with
  | .add => some (.int k (k.wrap (x + y)))
  | .sub => some (.int k (k.wrap (x - y)))
  | .mul => some (.int k (k.wrap (x * y)))
  | .eql => some (.bool (x == y))
  | .neq => some (.bool (x != y))
  | .lss => some (.bool (decide (x < y)))
  | .leq => some (.bool (decide (x ≤ y)))
  | .gtr => some (.bool (decide (y < x)))
  | .geq => some (.bool (decide (y ≤ x)))
  | .and => some (.int k (k.wrap (BitVec.ofInt k.bits x &&& BitVec.ofInt k.bits y).toNat))
  | .or => some (.int k (k.wrap (BitVec.ofInt k.bits x ||| BitVec.ofInt k.bits y).toNat))
  | .xor => some (.int k (k.wrap (BitVec.ofInt k.bits x ^^^ BitVec.ofInt k.bits y).toNat))
  | .andNot => some (.int k (k.wrap (BitVec.ofInt k.bits x &&& ~~~ BitVec.ofInt k.bits y).toNat))
  | _ => none

theorem bits_and (k : IntKind) (m n : Int) : Op.intBits .and k m n = pure (.int k (k.wrap (BitVec.ofInt k.bits m &&& BitVec.ofInt k.bits n).toNat)) := rfl
theorem bits_or (k : IntKind) (m n : Int) : Op.intBits .or k m n = pure (.int k (k.wrap (BitVec.ofInt k.bits m ||| BitVec.ofInt k.bits n).toNat)) := rfl
theorem bits_xor (k : IntKind) (m n : Int) : Op.intBits .xor k m n = pure (.int k (k.wrap (BitVec.ofInt k.bits m ^^^ BitVec.ofInt k.bits n).toNat)) := rfl
theorem bits_andNot (k : IntKind) (m n : Int) : Op.intBits .andNot k m n = pure (.int k (k.wrap (BitVec.ofInt k.bits m &&& ~~~ BitVec.ofInt k.bits n).toNat)) := rfl
theorem qq_binI {op : BinOp} {x y : Operand} {t u : TypeId} {k : IntKind} {m n : Int} {v : V} (ho : o.op = .binOp op t x y u)
    (hx : evalV σ x = .int k m) (hy : evalV σ y = .int k n) (hv : binI op k m n = some v) : QQ ρ P σ C o v := by
  intro X T a w h
  have e1 := rep_int (ev_rep h hx)
  have e2 := rep_int (ev_rep h hy)
  cases op <;> simp [binI] at hv <;> subst hv
  all_goals first
    | exact ⟨_, .pure (.int _ _), fun w' hw hsm => by simp [execOp, ho, e1, e2, eqGuard, binOp, Op.intArith, bits_and, bits_or, bits_xor, bits_andNot]⟩
    | exact ⟨_, .pure (.bool _), fun w' hw hsm => by simp [execOp, ho, e1, e2, eqGuard, binOp, Op.intCmp]⟩

theorem qq_quo {x y : Operand} {t u : TypeId} {k : IntKind} {m n : Int} (ho : o.op = .binOp .quo t x y u)
    (hx : evalV σ x = .int k m) (hy : evalV σ y = .int k n) (hn : n ≠ 0) : QQ ρ P σ C o (.int k (k.wrap (m.tdiv n))) := by
  intro X T a w h
  have e1 := rep_int (ev_rep h hx)
  have e2 := rep_int (ev_rep h hy)
  exact ⟨_, .pure (.int _ _), fun w' hw hsm => by simp [execOp, ho, e1, e2, eqGuard, binOp, Op.intDiv, hn]⟩

theorem qq_rem {x y : Operand} {t u : TypeId} {k : IntKind} {m n : Int} (ho : o.op = .binOp .rem t x y u)
    (hx : evalV σ x = .int k m) (hy : evalV σ y = .int k n) (hn : n ≠ 0) : QQ ρ P σ C o (.int k (m.tmod n)) := by
  intro X T a w h
  have e1 := rep_int (ev_rep h hx)
  have e2 := rep_int (ev_rep h hy)
  exact ⟨_, .pure (.int _ _), fun w' hw hsm => by simp [execOp, ho, e1, e2, eqGuard, binOp, Op.intDiv, hn]⟩

theorem unpack_toList (len n : Nat) : (unpack len n).toList = bytesL len n := by
  rw [ByteArray.toList_eq]
  rfl

theorem bytes_eq {l m a b : Nat} (ha : a < 256 ^ l) (hb : b < 256 ^ m) : (bytesL l a == bytesL m b) = (Nat.beq l m && Nat.beq a b) := by
  rw [Bool.eq_iff_iff]
  simp only [beq_iff_eq, Bool.and_eq_true, Nat.beq_eq]
  constructor
  · intro h
    have h1 := congrArg List.length h
    rw [bytesL_length, bytesL_length] at h1
    subst h1
    exact ⟨rfl, bytesL_inj _ _ _ ha hb h⟩
  · rintro ⟨rfl, rfl⟩
    rfl

theorem qq_eqlS {x y : Operand} {t u : TypeId} {l m a' b' : Nat} (ho : o.op = .binOp .eql t x y u)
    (hx : evalV σ x = .ps l a') (hy : evalV σ y = .ps m b') : QQ ρ P σ C o (.bool (Nat.beq l m && Nat.beq a' b')) := by
  intro X T a w h
  obtain ⟨e1, g1⟩ := rep_ps (ev_rep h hx)
  obtain ⟨e2, g2⟩ := rep_ps (ev_rep h hy)
  refine ⟨_, .pure (.bool _), fun w' hw hsm => ?_⟩
  rw [← bytes_eq g1 g2]
  simp [execOp, ho, e1, e2, eqGuard, binOp, Op.stringOp, unpack_toList]

theorem qq_neqS {x y : Operand} {t u : TypeId} {l m a' b' : Nat} (ho : o.op = .binOp .neq t x y u)
    (hx : evalV σ x = .ps l a') (hy : evalV σ y = .ps m b') : QQ ρ P σ C o (.bool !(Nat.beq l m && Nat.beq a' b')) := by
  intro X T a w h
  obtain ⟨e1, g1⟩ := rep_ps (ev_rep h hx)
  obtain ⟨e2, g2⟩ := rep_ps (ev_rep h hy)
  refine ⟨_, .pure (.bool _), fun w' hw hsm => ?_⟩
  rw [← bytes_eq g1 g2]
  simp [execOp, ho, e1, e2, eqGuard, binOp, Op.stringOp, unpack_toList]

theorem unpack_append {l m a b : Nat} (ha : a < 256 ^ l) : unpack l a ++ unpack m b = unpack (l + m) (a + b * 256 ^ l) := by
  unfold unpack
  rw [bytesL_append l m a b ha]
  apply ByteArray.ext
  show ((⟨⟨bytesL l a⟩⟩ : ByteArray) ++ (⟨⟨bytesL m b⟩⟩ : ByteArray)).data = _
  rw [ByteArray.data_append]
  simp

theorem qq_cat {x y : Operand} {t u : TypeId} {l m a' b' : Nat} (ho : o.op = .binOp .add t x y u)
    (hx : evalV σ x = .ps l a') (hy : evalV σ y = .ps m b') (hn : l + m ≤ 9223372036854775807) : QQ ρ P σ C o (.ps (l + m) (a' + b' * 256 ^ l)) := by
  intro X T a w h
  obtain ⟨e1, g1⟩ := rep_ps (ev_rep h hx)
  obtain ⟨e2, g2⟩ := rep_ps (ev_rep h hy)
  refine ⟨_, .pure (.ps _ _ ?_), fun w' hw hsm => ?_⟩
  · have hp : 0 < 256 ^ l := Nat.pos_of_ne_zero (by simp)
    have h1 : (b' + 1) * 256 ^ l ≤ 256 ^ m * 256 ^ l := Nat.mul_le_mul_right _ g2
    rw [Nat.add_mul, Nat.one_mul] at h1
    rw [Nat.pow_add, Nat.mul_comm (256 ^ l)]
    omega
  · rw [← unpack_append g1]
    have : ((unpack l a').size + (unpack m b').size : Nat) ≤ 9223372036854775807 := by simpa [unpack_size] using hn
    simp [execOp, ho, e1, e2, eqGuard, binOp, Op.stringOp, unpack_size]
    omega

theorem qq_eqlB {x y : Operand} {t u : TypeId} {ti : TI} {p q : Bool} (ho : o.op = .binOp .eql t x y u) (hx : evalV σ x = .bool p) (hy : evalV σ y = .bool q)
    (ht : TyOK P t ti) (hs : ti.sh = .bool) : QQ ρ P σ C o (.bool (p == q)) := by
  intro X T a w h
  have e1 := rep_bool (ev_rep h hx)
  have e2 := rep_bool (ev_rep h hy)
  refine ⟨_, .pure (.bool _), fun w' hw hsm => ?_⟩
  have := run_equal_bool (P := P) w' t p q (bool_of ht hs)
  simp [execOp, ho, e1, e2, eqGuard, binOp, this]

theorem qq_neqB {x y : Operand} {t u : TypeId} {ti : TI} {p q : Bool} (ho : o.op = .binOp .neq t x y u) (hx : evalV σ x = .bool p) (hy : evalV σ y = .bool q)
    (ht : TyOK P t ti) (hs : ti.sh = .bool) : QQ ρ P σ C o (.bool !(p == q)) := by
  intro X T a w h
  have e1 := rep_bool (ev_rep h hx)
  have e2 := rep_bool (ev_rep h hy)
  refine ⟨_, .pure (.bool _), fun w' hw hsm => ?_⟩
  have := run_equal_bool (P := P) w' t p q (bool_of ht hs)
  simp [execOp, ho, e1, e2, eqGuard, binOp, this]

/-- A slice held against nil. -/
def V.nilS : V → Option Bool
  | .sc (.slice none 0 0) => some true
  | .sl _ _ _ _ => some false
  | .ro _ (_ :: _) => some false
  | _ => none

theorem nilS_run {w : World} {L : Nat → Prop} {T : Tab} {v : V} {x : Value} {p : Bool} (hr : Rep ρ w L T v x) (hv : v.nilS = some p) : ∃ b l c, x = .slice b l c ∧ b.isNone = p := by
  unfold V.nilS at hv
  split at hv
  · cases hv
    exact ⟨_, _, _, rep_sc hr, rfl⟩
  · cases hv
    obtain ⟨p, at_, cap, _, _, _, _, _, e⟩ := rep_sl hr
    exact ⟨_, _, _, e, rfl⟩
  · cases hv
    rcases rep_ro hr with ⟨_, e⟩ | ⟨b, o, cap, val, e, _⟩
    · cases e
    · exact ⟨_, _, _, e, rfl⟩
  · cases hv

theorem qq_eqlNil {x y : Operand} {t u : TypeId} {ti : TI} {e es eb : Nat} {v : V} {p : Bool} (ho : o.op = .binOp .eql t x y u) (hx : evalV σ x = v) (hv : v.nilS = some p)
    (hy : evalV σ y = .sc (.slice none 0 0)) (ht : TyOK P t ti) (hs : ti.sh = .slice e es eb) : QQ ρ P σ C o (.bool p) := by
  intro X T a w h
  obtain ⟨b, l, c, e1, e3⟩ := nilS_run (ev_rep h hx) hv
  have e2 := rep_sc (ev_rep h hy)
  refine ⟨_, .pure (.bool _), fun w' hw hsm => ?_⟩
  have := run_equal_slice_nil (P := P) w' t e b l c (slice_of ht hs).1
  rw [e3] at this
  simp [execOp, ho, e1, e2, eqGuard, binOp, this]

theorem qq_neqNil {x y : Operand} {t u : TypeId} {ti : TI} {e es eb : Nat} {v : V} {p : Bool} (ho : o.op = .binOp .neq t x y u) (hx : evalV σ x = v) (hv : v.nilS = some p)
    (hy : evalV σ y = .sc (.slice none 0 0)) (ht : TyOK P t ti) (hs : ti.sh = .slice e es eb) : QQ ρ P σ C o (.bool !p) := by
  intro X T a w h
  obtain ⟨b, l, c, e1, e3⟩ := nilS_run (ev_rep h hx) hv
  have e2 := rep_sc (ev_rep h hy)
  refine ⟨_, .pure (.bool _), fun w' hw hsm => ?_⟩
  have := run_equal_slice_nil (P := P) w' t e b l c (slice_of ht hs).1
  rw [e3] at this
  simp [execOp, ho, e1, e2, eqGuard, binOp, this]

end quiet
end Go.Proofs.YtibmbbogjkecoaaDoor.M

/- More operations that only look: structs held against each other, conversions, values of interfaces, pieces of texts and slices, literals of structs. -/
namespace Go.Proofs.YtibmbbogjkecoaaDoor.M
open Go Go.RowKit
set_option linter.unusedSimpArgs false
set_option linter.unusedVariables false

variable {ρ : Nat → Value}

section quiet
variable {P : Program} {σ : St} {C : CellP} {o : Oper}

/-! ### Structs held against each other -/

def eqF (P : Program) (f : Field) : Option (Nat × Nat) := match f.name == "_", P.underlying f.type with
  | false, some (.int _) => some (f.offset, 0)
  | false, some .bool => some (f.offset, 1)
  | false, some .string => some (f.offset, 2)
  | _, _ => none

def eqTy (P : Program) (t : TypeId) : Option (List (Nat × Nat)) := match P.underlying t with
  | some (.struct F) => match P.stoodInHeld t, P.eqGuardType P.depth t with
    | false, false => F.toList.mapM (eqF P)
    | _, _ => none
  | _ => none

def eqC (kd : Nat) (x y : V) : Option Bool := match kd, x, y with
  | 0, .int k a, .int k' b => match decide (k = k') with
    | true => some (a == b)
    | false => none
  | 1, .bool a, .bool b => some (a == b)
  | 2, .ps l a, .ps m b => some (Nat.beq l m && Nat.beq a b)
  | _, _, _ => none

def eqL : List (Nat × Nat) → List V → List V → Option Bool
  | [], _, _ => some true
  | (off, kd) :: r, l, m => match l[off]?, m[off]? with
    | some x, some y => match eqC kd x y with
      | some true => eqL r l m
      | some false => some false
      | none => none
    | _, _ => none

theorem part_run (w : World) (t : TypeId) (cs : Array Value) (off : Nat) (v : Value) (hu : ∃ d, P.underlying t = some d ∧ isAggD d = false) (hv : cs[off]? = some v) : (part t cs off).run P w = .ok v w := by
  obtain ⟨d, hu, hd⟩ := hu
  have hagg : (isAgg t).run P w = .ok false w := by
    simp [Go.isAgg, underlying, hu]
    cases d <;> first | rfl | simp [isAggD] at hd
  simp [part, hagg, hv]

theorem eqL_run (w : World) {L : Nat → Prop} {T : Tab} {l m : List V} {xs ys : Array Value}
    (hx : ∀ (i : Nat) (q : V), l[i]? = some q → ∃ v, xs[i]? = some v ∧ Rep ρ w L T q v) (hy : ∀ (i : Nat) (q : V), m[i]? = some q → ∃ v, ys[i]? = some v ∧ Rep ρ w L T q v) (d : Nat) (w' : World) :
    ∀ (F : List Field) (fs : List (Nat × Nat)) (p : Bool), F.mapM (eqF P) = some fs → eqL fs l m = some p → (Op.eqFields (d + 1) xs ys F).run P w' = .ok p w'
  | [], fs, p, hF, hp => by
    simp at hF
    subst hF
    simp only [eqL, Option.some.injEq] at hp
    subst hp
    simp [Op.eqFields]
  | f :: F, fs, p, hF, hp => by
    rw [List.mapM_cons] at hF
    simp only [Option.pure_def, Option.bind_eq_bind, Option.bind_eq_some_iff, Option.some.injEq] at hF
    obtain ⟨⟨off, kd⟩, h1, fs', h2, rfl⟩ := hF
    unfold eqL at hp
    split at hp
    · rename_i x y hlx hmy
      obtain ⟨vx, g1, g2⟩ := hx off x hlx
      obtain ⟨vy, g3, g4⟩ := hy off y hmy
      unfold eqF at h1
      have key : ∀ (b : Bool), eqC kd x y = some b → (f.name == "_") = false ∧ f.offset = off ∧ (∃ d, P.underlying f.type = some d ∧ isAggD d = false) ∧ (Op.equalIn (d + 1) f.type vx vy).run P w' = .ok b w' := by
        intro b hb
        split at h1
        · rename_i k hn hu
          cases h1
          unfold eqC at hb
          split at hb <;> rename_i heq <;> try (cases heq; done)
          · split at hb
            · rename_i hk
              have hk := of_decide_eq_true hk
              cases hb
              subst hk
              rw [rep_int g2, rep_int g4]
              exact ⟨hn, rfl, ⟨_, hu, rfl⟩, run_equalIn_int w' d _ _ k _ _ hu⟩
            · cases hb
          · cases hb
        · rename_i hn hu
          cases h1
          unfold eqC at hb
          split at hb <;> rename_i heq <;> try (cases heq; done)
          · cases hb
            rw [rep_bool g2, rep_bool g4]
            exact ⟨hn, rfl, ⟨_, hu, rfl⟩, run_equalIn_bool w' d _ _ _ hu⟩
          · cases hb
        · rename_i hn hu
          cases h1
          unfold eqC at hb
          split at hb <;> rename_i heq <;> try (cases heq; done)
          · cases hb
            obtain ⟨e1, k1⟩ := rep_ps g2
            obtain ⟨e2, k2⟩ := rep_ps g4
            rw [e1, e2, ← bytes_eq k1 k2, ← unpack_toList, ← unpack_toList]
            exact ⟨hn, rfl, ⟨_, hu, rfl⟩, run_equalIn_string w' d _ _ _ hu⟩
          · cases hb
        · cases h1
      split at hp
      · rename_i hb
        obtain ⟨hn, e, hd, hr⟩ := key true hb
        subst e
        have := eqL_run w hx hy d w' F fs' p h2 hp
        have hne : f.name ≠ "_" := by simpa using hn
        simp [Op.eqFields, hne, part_run w' _ _ _ _ hd g1, part_run w' _ _ _ _ hd g3, hr, this]
      · rename_i hb
        cases hp
        obtain ⟨hn, e, hd, hr⟩ := key false hb
        subst e
        have hne : f.name ≠ "_" := by simpa using hn
        simp [Op.eqFields, hne, part_run w' _ _ _ _ hd g1, part_run w' _ _ _ _ hd g3, hr]
      · cases hp
    · cases hp

theorem agg_at {w : World} {L : Nat → Prop} {T : Tab} {l : List V} {vs : Array Value} (hs : vs.size = l.length) (h : ∀ (i : Nat) (q : V), l[i]? = some q → Rep ρ w L T q (vs.getD i undef)) (i : Nat) (q : V) (hq : l[i]? = some q) :
    ∃ v, vs[i]? = some v ∧ Rep ρ w L T q v := by
  have hr := h i q hq
  obtain ⟨y, hy⟩ : ∃ y, vs[i]? = some y := ⟨_, Array.getElem?_eq_getElem (by have := lt_of_get hq; omega)⟩
  rw [getD_of hy] at hr
  exact ⟨y, hy, hr⟩

theorem eqStruct {x y : Operand} {t : TypeId} {l m : List V} {fs : List (Nat × Nat)} {p : Bool}
    (hx : evalV σ x = .agg l) (hy : evalV σ y = .agg m) (ht : eqTy P t = some fs) (hp : eqL fs l m = some p) {X : Ctx} {T : Tab} {a : Act} {w : World} (h : HoldsT ρ X T σ a w) :
    ∃ xs ys, a.eval x = .agg xs ∧ a.eval y = .agg ys ∧ (∀ w' op, (eqGuard op t x y (.agg xs) (.agg ys)).run P w' = .ok () w') ∧ ∀ w', (Op.equalIn 10000 t (.agg xs) (.agg ys)).run P w' = .ok p w' := by
  obtain ⟨xs, e1, s1, r1⟩ := rep_agg (ev_rep h hx)
  obtain ⟨ys, e2, s2, r2⟩ := rep_agg (ev_rep h hy)
  refine ⟨xs, ys, e1, e2, ?_⟩
  unfold eqTy at ht
  split at ht
  · rename_i F hF
    split at ht
    · rename_i h1 h2
      refine ⟨fun w' op => run_eqGuard_agg w' op t x y xs ys h2, fun w' => ?_⟩
      have hf : P.fieldsOf t = F := by simp [Program.fieldsOf, hF]
      rw [run_equalIn_agg w' 9999 t xs ys (by rw [hf]; exact hF) h1, hf]
      exact eqL_run w (agg_at s1 r1) (agg_at s2 r2) 9998 w' _ _ _ ht hp
    · cases ht
  · cases ht

theorem qq_eqlA {x y : Operand} {t u : TypeId} {l m : List V} {fs : List (Nat × Nat)} {p : Bool} (ho : o.op = .binOp .eql t x y u)
    (hx : evalV σ x = .agg l) (hy : evalV σ y = .agg m) (ht : eqTy P t = some fs) (hp : eqL fs l m = some p) : QQ ρ P σ C o (.bool p) := by
  intro X T a w h
  obtain ⟨xs, ys, e1, e2, h1, h2⟩ := eqStruct hx hy ht hp h
  refine ⟨_, .pure (.bool _), fun w' hw hsm => ?_⟩
  simp only [execOp, ho, e1, e2, Sem.run_bind, h1, Result.andThen, run_eql_struct, h2, Sem.run_pure]

theorem qq_neqA {x y : Operand} {t u : TypeId} {l m : List V} {fs : List (Nat × Nat)} {p : Bool} (ho : o.op = .binOp .neq t x y u)
    (hx : evalV σ x = .agg l) (hy : evalV σ y = .agg m) (ht : eqTy P t = some fs) (hp : eqL fs l m = some p) : QQ ρ P σ C o (.bool !p) := by
  intro X T a w h
  obtain ⟨xs, ys, e1, e2, h1, h2⟩ := eqStruct hx hy ht hp h
  refine ⟨_, .pure (.bool _), fun w' hw hsm => ?_⟩
  simp only [execOp, ho, e1, e2, Sem.run_bind, h1, Result.andThen, run_neq_struct, h2, Sem.run_pure]

/-! ### Values of interfaces -/

def isIface (P : Program) (t : TypeId) : Option Bool := match P.underlying t with
  | some (.interface _) => some true
  | some _ => some false
  | none => none

theorem qq_makeInterface {x : Operand} {t : TypeId} (ho : o.op = .makeInterface t x) (ht : isIface P t = some false) : QQ ρ P σ C o (.ifc t (evalV σ x)) := by
  intro X T a w h
  refine ⟨_, .ifc t _ _ (eval_rep h x), fun w' hw hsm => ?_⟩
  unfold isIface at ht
  split at ht
  · cases ht
  · rename_i d hd hn
    cases d <;> first | (exact (hd _ rfl).elim) | simp [execOp, ho, Instr.makeInterface, underlying, hn]
  · cases ht

/-- An interface's value held against nil. -/
def V.nilI : V → Option Bool
  | .sc .nilIface => some true
  | .ifc _ _ => some false
  | _ => none

theorem eqIface {t : TypeId} (hi : isIface P t = some true) {w : World} {L : Nat → Prop} {T : Tab} {v : V} {z : Value} {p : Bool} (hr : Rep ρ w L T v z) (hv : v.nilI = some p) (x y : Operand) (hy : y = .const .nilIface) (op : BinOp) :
    ∀ w', (eqGuard op t x y z .nilIface).run P w' = .ok () w' ∧ (binOp .eql t z .nilIface).run P w' = .ok (.bool p) w' ∧ (binOp .neq t z .nilIface).run P w' = .ok (.bool !p) w' := by
  intro w'
  subst hy
  unfold isIface at hi
  split at hi
  · rename_i ms hm
    unfold V.nilI at hv
    have h1 : ∀ d : Nat, (Op.equalIn (d + 1) t .nilIface .nilIface).run P w' = .ok true w' := fun d => by simp [Op.equalIn, run_underlying hm]
    have h2 : ∀ (d : Nat) (u : TypeId) (q : Value), (Op.equalIn (d + 1) t (.iface u q) .nilIface).run P w' = .ok false w' := fun d u q => by simp [Op.equalIn, run_underlying hm]
    split at hv
    · cases hv
      rw [rep_sc hr]
      refine ⟨by cases op <;> simp [eqGuard], ?_, ?_⟩ <;> (simp only [binOp]; simp [Op.equal, Op.maxDepth, h1 9999])
    · cases hv
      obtain ⟨q, e, _⟩ := rep_ifc hr
      rw [e]
      refine ⟨by cases op <;> simp [eqGuard], ?_, ?_⟩ <;> (simp only [binOp]; simp [Op.equal, Op.maxDepth, h2 9999])
    · cases hv
  · cases hi
  · cases hi

theorem qq_eqlI {x : Operand} {t u : TypeId} {v : V} {p : Bool} (ho : o.op = .binOp .eql t x (.const .nilIface) u) (hx : evalV σ x = v) (hv : v.nilI = some p) (hi : isIface P t = some true) : QQ ρ P σ C o (.bool p) := by
  intro X T a w h
  refine ⟨_, .pure (.bool _), fun w' hw hsm => ?_⟩
  obtain ⟨h1, h2, h3⟩ := eqIface hi (ev_rep h hx) hv x (.const .nilIface) rfl .eql w'
  simp only [execOp, ho, Act.eval, Sem.run_bind, h1, Result.andThen, h2, Sem.run_pure] at *

theorem qq_neqI {x : Operand} {t u : TypeId} {v : V} {p : Bool} (ho : o.op = .binOp .neq t x (.const .nilIface) u) (hx : evalV σ x = v) (hv : v.nilI = some p) (hi : isIface P t = some true) : QQ ρ P σ C o (.bool !p) := by
  intro X T a w h
  refine ⟨_, .pure (.bool _), fun w' hw hsm => ?_⟩
  obtain ⟨h1, h2, h3⟩ := eqIface hi (ev_rep h hx) hv x (.const .nilIface) rfl .neq w'
  simp only [execOp, ho, Act.eval, Sem.run_bind, h1, Result.andThen, h3, Sem.run_pure] at *

/-- Is a pointer nil? -/
def isPtrT (P : Program) (t : TypeId) : Bool := match P.underlying t with
  | some (.pointer _) => true
  | _ => false
def V.nilP : V → Option Bool
  | .sc (.pointer none) => some true
  | .ptr _ _ _ => some false
  | .pro _ => some false
  | _ => none

theorem eqPtr {t : TypeId} (hi : isPtrT P t = true) {w : World} {L : Nat → Prop} {T : Tab} {v : V} {z : Value} {p : Bool} (hr : Rep ρ w L T v z) (hv : v.nilP = some p) (x y : Operand) (op : BinOp) :
    ∀ w', (eqGuard op t x y z (.pointer none)).run P w' = .ok () w' ∧ (binOp .eql t z (.pointer none)).run P w' = .ok (.bool p) w' ∧ (binOp .neq t z (.pointer none)).run P w' = .ok (.bool !p) w' := by
  intro w'
  unfold isPtrT at hi
  split at hi
  · rename_i e hm
    have h1 : ∀ d : Nat, (Op.equalIn (d + 1) t (.pointer none) (.pointer none)).run P w' = .ok true w' := fun d => by simp [Op.equalIn, run_underlying hm]
    have h2 : ∀ (d : Nat) (a : Addr), (Op.equalIn (d + 1) t (.pointer (some a)) (.pointer none)).run P w' = .ok false w' := fun d a => by simp [Op.equalIn, run_underlying hm]
    have fin : ∀ a, z = .pointer (some a) → p = false → _ := fun a e1 e2 => (show (eqGuard op t x y z (.pointer none)).run P w' = .ok () w' ∧ (binOp .eql t z (.pointer none)).run P w' = .ok (.bool p) w' ∧ (binOp .neq t z (.pointer none)).run P w' = .ok (.bool !p) w' by
      subst e1 e2
      refine ⟨by cases op <;> simp [eqGuard], ?_, ?_⟩ <;> (simp only [binOp]; simp [Op.equal, Op.maxDepth, h2 9999]))
    unfold V.nilP at hv
    split at hv
    · cases hv
      rw [rep_sc hr]
      refine ⟨by cases op <;> simp [eqGuard], ?_, ?_⟩ <;> (simp only [binOp]; simp [Op.equal, Op.maxDepth, h1 9999])
    · cases hv
      obtain ⟨q, _, e⟩ := rep_ptr hr
      exact fin _ e rfl
    · cases hv
      obtain ⟨b, o, val, e, _⟩ := rep_pro hr
      exact fin _ e rfl
    · cases hv
  · cases hi

theorem qq_eqlP {x : Operand} {t u : TypeId} {v : V} {p : Bool} (ho : o.op = .binOp .eql t x (.const (.pointer none)) u) (hx : evalV σ x = v) (hv : v.nilP = some p) (hi : isPtrT P t = true) : QQ ρ P σ C o (.bool p) := by
  intro X T a w h
  refine ⟨_, .pure (.bool _), fun w' hw hsm => ?_⟩
  obtain ⟨h1, h2, h3⟩ := eqPtr hi (ev_rep h hx) hv x (.const (.pointer none)) .eql w'
  simp only [execOp, ho, Act.eval, Sem.run_bind, h1, Result.andThen, h2, Sem.run_pure] at *

theorem qq_neqP {x : Operand} {t u : TypeId} {v : V} {p : Bool} (ho : o.op = .binOp .neq t x (.const (.pointer none)) u) (hx : evalV σ x = v) (hv : v.nilP = some p) (hi : isPtrT P t = true) : QQ ρ P σ C o (.bool !p) := by
  intro X T a w h
  refine ⟨_, .pure (.bool _), fun w' hw hsm => ?_⟩
  obtain ⟨h1, h2, h3⟩ := eqPtr hi (ev_rep h hx) hv x (.const (.pointer none)) .neq w'
  simp only [execOp, ho, Act.eval, Sem.run_bind, h1, Result.andThen, h3, Sem.run_pure] at *

/-- A type's nought. -/
def zeroV (P : Program) (t : TypeId) : Option V := match (P.info? t).bind (·.zero) with
  | some (.agg cs) => some (.agg (cs.toList.map cv))
  | some v => some (cv v)
  | none => none

theorem zeroV_run {t : TypeId} {z : V} (hz : zeroV P t = some z) : ∃ v, (∀ w, (zeroValue t).run P w = .ok v w) ∧ ∀ (w : World) (L : Nat → Prop) (T : Tab), Rep ρ w L T z v := by
  unfold zeroV at hz
  cases hi : P.info? t with
  | none => rw [hi] at hz; simp at hz
  | some i =>
    rw [hi] at hz
    simp only [Option.bind_some] at hz
    cases hv : i.zero with
    | none => rw [hv] at hz; simp at hz
    | some v =>
      rw [hv] at hz
      refine ⟨v, fun w => by simp [Go.zeroValue, typeInfo, hi, hv], fun w L T => ?_⟩
      cases v with
      | agg cs =>
        simp only [Option.some.injEq] at hz
        subst hz
        refine .agg _ cs (by simp) fun i q hq => ?_
        rw [List.getElem?_map] at hq
        simp only [Option.map_eq_some_iff] at hq
        obtain ⟨c, hc, rfl⟩ := hq
        rw [getD_of (by simpa using hc)]
        exact rep_cv w L T c
      | _ => simp only [Option.some.injEq] at hz; subst hz; exact rep_cv w L T _

theorem qq_assert {x : Operand} {xt t u : TypeId} {q : V} (ho : o.op = .typeAssert x xt t true) (hx : evalV σ x = .ifc u q) (ht : isIface P t = some false) (he : u = t) : QQ ρ P σ C o (.tup [q, .bool true]) := by
  intro X T a w h
  obtain ⟨v, e, hr⟩ := rep_ifc (ev_rep h hx)
  subst he
  refine ⟨.tuple #[v, .bool true], .tup _ _ rfl fun i p hp => ?_, fun w' hw hsm => ?_⟩
  · match i with
    | 0 => simp at hp; subst hp; exact hr
    | 1 => simp at hp; subst hp; exact .pure (.bool _)
    | i + 2 => simp at hp
  · unfold isIface at ht
    split at ht
    · cases ht
    · rename_i d hd hn
      cases d <;> first | (exact (hd _ rfl).elim) | simp [execOp, ho, e, Instr.typeAssert, underlying, hn]
    · cases ht

theorem qq_assertNot {x : Operand} {xt t u : TypeId} {q z : V} (ho : o.op = .typeAssert x xt t true) (hx : evalV σ x = .ifc u q) (ht : isIface P t = some false) (he : u ≠ t) (hz : zeroV P t = some z) :
    QQ ρ P σ C o (.tup [z, .bool false]) := by
  intro X T a w h
  obtain ⟨v, e, hr⟩ := rep_ifc (ev_rep h hx)
  obtain ⟨y, h1, h2⟩ := zeroV_run hz
  refine ⟨.tuple #[y, .bool false], .tup _ _ rfl fun i p hp => ?_, fun w' hw hsm => ?_⟩
  · match i with
    | 0 => simp at hp; subst hp; exact h2 w _ T
    | 1 => simp at hp; subst hp; exact .pure (.bool _)
    | i + 2 => simp at hp
  · unfold isIface at ht
    split at ht
    · cases ht
    · rename_i d hd hn
      cases d <;> first | (exact (hd _ rfl).elim) | simp [execOp, ho, e, Instr.typeAssert, underlying, hn, he, h1]
    · cases ht

theorem qq_assertNil {x : Operand} {xt t : TypeId} {z : V} (ho : o.op = .typeAssert x xt t true) (hx : evalV σ x = .sc .nilIface) (ht : isIface P t = some false) (hz : zeroV P t = some z) : QQ ρ P σ C o (.tup [z, .bool false]) := by
  intro X T a w h
  have e := rep_sc (ev_rep h hx)
  obtain ⟨y, h1, h2⟩ := zeroV_run hz
  refine ⟨.tuple #[y, .bool false], .tup _ _ rfl fun i p hp => ?_, fun w' hw hsm => ?_⟩
  · match i with
    | 0 => simp at hp; subst hp; exact h2 w _ T
    | 1 => simp at hp; subst hp; exact .pure (.bool _)
    | i + 2 => simp at hp
  · unfold isIface at ht
    split at ht
    · cases ht
    · rename_i d hd hn
      cases d <;> first | (exact (hd _ rfl).elim) | simp [execOp, ho, e, Instr.typeAssert, underlying, hn, h1]
    · cases ht

/-! ### Conversions -/

theorem qq_convert_int {x : Operand} {t u : TypeId} {ti tj : TI} {k k' k'' : IntKind} {n : Int} (ho : o.op = .convert t u x) (hx : evalV σ x = .int k'' n)
    (ht : TyOK P t ti) (hs : ti.sh = .int k') (hu : TyOK P u tj) (hs' : tj.sh = .int k) : QQ ρ P σ C o (.int k (k.wrap n)) := by
  intro X T a w h
  have e1 := rep_int (ev_rep h hx)
  refine ⟨_, .pure (.int _ _), fun w' hw hsm => ?_⟩
  simp [execOp, ho, e1, convert, run_underlying (int_of ht hs), run_underlying (int_of hu hs'), Conv.intToInt]

theorem push_all (bs : List UInt8) : ∀ s : ByteArray, (bs.map fun b => (b.toNat : Int)).foldl (fun r n => r.push (UInt8.ofNat n.toNat)) s = ⟨⟨s.data.toList ++ bs⟩⟩ := by
  induction bs with
  | nil => intro s; simp
  | cons b bs ih =>
    intro s
    rw [List.map_cons, List.foldl_cons, ih]
    congr 2
    simp [ByteArray.push]

theorem qq_bytesString {x : Operand} {t u e : TypeId} {k off len : Nat} {full : Bool} {ob : Ob} {bs : List UInt8} (ho : o.op = .convert t u x) (hx : evalV σ x = .sl k off len full)
    (hk : ∀ j, j < len → C k (off + j) 0) (hob : σ.objs k = some ob) (hmp : ob.mp = false) (h1 : ob.s = 1) (hl : bs.length = len) (hb : ∀ (i : Nat) (b : UInt8), bs[i]? = some b → ob.row (off + i) = some [.int .u8 b.toNat])
    (ht : P.underlying t = some (.slice e)) (he : P.underlying e = some (.int .u8)) (hu : P.underlying u = some .string) : QQ ρ P σ C o (.ps len (packL bs)) := by
  intro X T a w h
  obtain ⟨p, at_, cap, hT, ha, hc, hf, hroom, e1⟩ := rep_sl (ev_rep h hx)
  refine ⟨.string (unpack len (packL bs)), .pure (.ps _ _ (by rw [← hl]; exact packL_lt bs)), fun w' hw hsm => ?_⟩
  have hload : (loadCells ⟨p.b, at_, none⟩ len).run P w' = .ok ((bs.map fun b => (b.toNat : Int)).map (Value.int .u8)).toArray w' := by
    have hrun := run_loadCells (P := P) w' ⟨p.b, at_, none⟩ len (fun j => .int .u8 ((bs.getD j 0).toNat : Int)) (fun j hj => by
      have hbj : bs[j]? = some bs[j] := List.getElem?_eq_getElem (by omega)
      obtain ⟨p', hT', hs', hlen, _, hcells⟩ := row_cells h hob hmp (hb j _ hbj)
      rw [hT] at hT'
      cases hT'
      obtain ⟨v, hv, hrep⟩ := hcells 0 _ rfl
      have e2 := rep_int hrep
      have hcell := (hsm k (off + j) 0 p (hk j hj) (by rw [hob]; simp) hT (by omega)).trans hv
      have e3 : at_ = p.o + off * p.s := by omega
      rw [add_at, e3]
      rw [h1] at hs'
      rw [hs'] at hcell ⊢
      rw [e2] at hcell
      rw [show p.o + off * 1 + j = p.o + ((off + j) * 1 + 0) by omega, hcell]
      simp [List.getD, hbj])
    rw [hrun]
    congr 2
    subst hl
    apply List.ext_getElem?
    intro i
    simp only [List.getElem?_map, List.getElem?_range]
    rcases Nat.lt_or_ge i bs.length with g | g
    · rw [List.getElem?_range g, List.getElem?_eq_getElem g]
      simp [List.getD, List.getElem?_eq_getElem g]
    · rw [List.getElem?_eq_none (by simpa using g), List.getElem?_eq_none g]
      rfl
  have hrun := run_bytesToString (P := P) w' ⟨p.b, at_, none⟩ len cap _ hload
  rw [push_all] at hrun
  have e4 : unpack len (packL bs) = (⟨⟨ByteArray.empty.data.toList ++ bs⟩⟩ : ByteArray) := by
    unfold unpack
    rw [← hl, bytesL_packL]
    rfl
  rw [e4]
  simp only [execOp, ho, e1, Sem.run_bind, run_convert_bytes_string w' t u e _ _ _ ht he hu, hrun, Result.andThen, Sem.run_pure]

/-! ### Pieces -/

/-- A bound of a piece. -/
def lowV (σ : St) : Option Operand → Option Nat
  | none => some 0
  | some x => match evalV σ x with
    | .int _ (.ofNat n) => some n
    | _ => none
def highV (σ : St) (len : Nat) : Option Operand → Option Nat
  | none => some len
  | some x => match evalV σ x with
    | .int _ (.ofNat n) => some n
    | _ => none

theorem bounds_run {X : Ctx} {T : Tab} {a : Act} {w : World} (hh : HoldsT ρ X T σ a w) (w' : World) {low high : Option Operand} {len cap l h : Nat} (isSlice : Bool) (hl : lowV σ low = some l) (hhi : highV σ len high = some h) (h1 : l ≤ h) (h2 : h ≤ len) (h3 : len ≤ cap) :
    (Instr.sliceBounds isSlice len cap (low.map a.eval) (high.map a.eval) none).run P w' = .ok (l, h, cap) w' := by
  have key : ∀ (x : Operand) (n m : Nat) (code : BoundsCode), (match evalV σ x with | .int _ (.ofNat n) => some n | _ => none) = some n → n ≤ m → (Instr.sliceBound (a.eval x) m code).run P w' = .ok n w' := by
    intro x n m code hx hm
    split at hx
    · rename_i k j he
      cases hx
      have := rep_int (ev_rep hh he)
      rw [this]
      have hm' : ((n : Nat) : Int) ≤ m := by omega
      simp [Instr.sliceBound, asIntOf, hm, hm']
    · cases hx
  cases low with
  | none =>
    simp only [lowV, Option.some.injEq] at hl
    subst hl
    cases high with
    | none =>
      simp only [highV, Option.some.injEq] at hhi
      subst hhi
      simp [Instr.sliceBounds]
    | some y =>
      have h5 := fun code => key y h cap code hhi (by omega)
      cases isSlice <;> simp [Instr.sliceBounds, h5]
  | some x =>
    have h4 := fun code => key x l h code hl h1
    cases high with
    | none =>
      simp only [highV, Option.some.injEq] at hhi
      subst hhi
      cases isSlice <;> simp [Instr.sliceBounds, h4]
    | some y =>
      have h5 := fun code => key y h cap code hhi (by omega)
      cases isSlice <;> simp [Instr.sliceBounds, h4, h5]

theorem qq_slicePs {x : Operand} {t : TypeId} {ti : TI} {low high : Option Operand} {len n l h : Nat} (ho : o.op = .slice t x low high none) (hx : evalV σ x = .ps len n) (ht : TyOK P t ti) (hs : ti.sh = .string)
    (hl : lowV σ low = some l) (hhi : highV σ len high = some h) (h1 : l ≤ h) (h2 : h ≤ len) : QQ ρ P σ C o (.ps (h - l) (n / 256 ^ l % 256 ^ (h - l))) := by
  intro X T a w hh
  have e1 := (rep_ps (ev_rep hh hx)).1
  have hu := string_of ht hs
  refine ⟨.string (unpack (h - l) (n / 256 ^ l % 256 ^ (h - l))), .pure (.ps _ _ (Nat.mod_lt _ (Nat.pos_of_ne_zero (by simp)))), fun w' hw hsm => ?_⟩
  have hb := bounds_run (P := P) hh w' (cap := len) false hl hhi h1 h2 (Nat.le_refl _)
  have e2 : (unpack len n).extract l h = unpack (h - l) (n / 256 ^ l % 256 ^ (h - l)) := by
    unfold unpack
    apply ByteArray.ext
    rw [ByteArray.data_extract]
    apply Array.toList_inj.mp
    rw [Array.toList_extract]
    show List.extract (bytesL len n) l h = bytesL (h - l) (n / 256 ^ l % 256 ^ (h - l))
    rw [List.extract_eq_take_drop, bytesL_drop, bytesL_take _ _ _ (by omega)]
  simp [execOp, ho, Instr.sliceAt, run_underlying hu, Instr.slice, e1, unpack_size, hb, e2]

theorem qq_sliceSl {x : Operand} {t : TypeId} {ti : TI} {e es eb : Nat} {low high : Option Operand} {k off len l h : Nat} {full : Bool} {ob : Ob} (ho : o.op = .slice t x low high none) (hx : evalV σ x = .sl k off len full) (ht : TyOK P t ti) (hs : ti.sh = .slice e es eb)
    (hob : σ.objs k = some ob) (hst : ob.s = es) (hl : lowV σ low = some l) (hhi : highV σ len high = some h) (h1 : l ≤ h) (h2 : h ≤ len) : QQ ρ P σ C o (.sl k (off + l) (h - l) (full && Nat.beq h len)) := by
  intro X T a w hh
  obtain ⟨hu, j, hj, hjs, hjb⟩ := slice_of ht hs
  obtain ⟨p, at_, cap, hT, ha, hc, hf, ⟨Cs, ty, fr, hC, hroom⟩, e1⟩ := rep_sl (ev_rep hh hx)
  obtain ⟨p', hT', _, hs', _⟩ := hh.mem.obj k ob hob
  rw [hT] at hT'
  cases hT'
  have hes : j.size = p.s := by omega
  have hb := fun w' => bounds_run (P := P) hh w' (cap := cap) true hl hhi h1 h2 hc
  by_cases hcl : cap = l
  · subst hcl
    have e2 : cap = h := by omega
    subst e2
    refine ⟨.slice (some ⟨p.b, at_, none⟩) (cap - cap) (cap - cap), ?_, fun w' hw hsm => ?_⟩
    · have := Rep.sl (ρ := ρ) (w := w) (L := Live X.A T σ.objs) (T := T) k (off + cap) (cap - cap) (full && Nat.beq cap len) p at_ (cap - cap) hT (.inl (by omega)) (by omega) (fun _ => rfl) ⟨Cs, ty, fr, hC, by
        have : (cap - cap) * p.s = 0 := by simp
        omega⟩
      exact this
    · simp [execOp, ho, Instr.sliceAt, run_underlying hu, Instr.slice, e1, hb w', Go.sizeOf, typeInfo, hj]
  · refine ⟨.slice (some ⟨p.b, at_ + l * p.s, none⟩) (h - l) (cap - l), ?_, fun w' hw hsm => ?_⟩
    · refine .sl k (off + l) (h - l) _ p (at_ + l * p.s) (cap - l) hT ?_ (by omega) ?_ ⟨Cs, ty, fr, hC, ?_⟩
      · rcases ha with ha | ha
        · left; omega
        · right; rw [ha, Nat.add_mul, Nat.add_assoc]
      · intro hfull
        simp only [Bool.and_eq_true, Nat.beq_eq] at hfull
        have := hf hfull.1
        omega
      · have h5 : l * p.s + (cap - l) * p.s = cap * p.s := by rw [← Nat.add_mul]; congr 1; omega
        omega
    · simp [execOp, ho, Instr.sliceAt, run_underlying hu, Instr.slice, e1, hb w', Go.sizeOf, typeInfo, hj, hcl, hes, add_at]

theorem qq_sliceRo {x : Operand} {t : TypeId} {ti : TI} {e es eb : Nat} {low high : Option Operand} {l h : Nat} {rows : List (List V)} (ho : o.op = .slice t x low high none) (hx : evalV σ x = .ro es rows) (ht : TyOK P t ti) (hs : ti.sh = .slice e es eb)
    (hl : lowV σ low = some l) (hhi : highV σ rows.length high = some h) (h1 : l ≤ h) (h2 : h ≤ rows.length) : QQ ρ P σ C o (.ro es ((rows.drop l).take (h - l))) := by
  intro X T a w hh
  obtain ⟨hu, j, hj, hjs, hjb⟩ := slice_of ht hs
  rcases rep_ro (ev_rep hh hx) with ⟨e1, rfl⟩ | ⟨b, o0, cap, val, e1, g1, g2, g3, g4, g5, g6⟩
  · have hh0 : h = 0 := by simpa using h2
    subst hh0
    have hl0 : l = 0 := by omega
    subst hl0
    refine ⟨.slice none 0 0, .pure (.nil es), fun w' hw hsm => ?_⟩
    have hb := bounds_run (P := P) hh w' (cap := 0) true hl hhi (Nat.le_refl _) (Nat.le_refl _) (Nat.le_refl _)
    rw [List.length_nil] at hb
    simp [execOp, ho, Instr.sliceAt, run_underlying hu, Instr.slice, e1, hb, Go.sizeOf, typeInfo, hj]
  · have hb := fun w' => bounds_run (P := P) hh w' (cap := cap) true hl hhi h1 h2 g3
    have hlen : ((rows.drop l).take (h - l)).length = h - l := by rw [List.length_take, List.length_drop]; omega
    by_cases hcl : cap = l
    · subst hcl
      have e2 : rows.length = cap := by omega
      have e3 : h = cap := by omega
      subst e3
      have e4 : (rows.drop h).take (h - h) = [] := by simp
      refine ⟨.slice (some ⟨b, o0, none⟩) (h - h) (h - h), ?_, fun w' hw hsm => ?_⟩
      · rw [e4]
        have := RepP.ro (ρ := ρ) (w := w) (L := Live X.A T σ.objs) es [] b o0 (h - h) val g1 g2 (by simp) (by simp) (by simp) (by simp)
        rw [List.length_nil] at this
        rw [show h - h = 0 by omega] at this ⊢
        exact .pure this
      · simp [execOp, ho, Instr.sliceAt, run_underlying hu, Instr.slice, e1, hb w', Go.sizeOf, typeInfo, hj]
    · refine ⟨.slice (some ⟨b, o0 + l * es, none⟩) (h - l) (cap - l), ?_, fun w' hw hsm => ?_⟩
      · have hget : ∀ (r : Nat) (row : List V), ((rows.drop l).take (h - l))[r]? = some row → rows[l + r]? = some row := by
          intro r row hr
          have hlt := (List.getElem?_eq_some_iff.mp hr).1
          rw [hlen] at hlt
          rw [List.getElem?_take, if_pos hlt, List.getElem?_drop] at hr
          exact hr
        have := RepP.ro (ρ := ρ) (w := w) (L := Live X.A T σ.objs) es ((rows.drop l).take (h - l)) b (o0 + l * es) (cap - l) (fun r c => val (l + r) c) g1 g2 (by rw [hlen]; omega)
          (fun row hr => g4 row (List.mem_of_mem_drop (List.mem_of_mem_take hr)))
          (fun r row hr c q hq => by
            have := g5 (l + r) row (hget r row hr) c q hq
            rw [Nat.add_mul] at this
            rw [show o0 + l * es + (r * es + c) = o0 + (l * es + r * es + c) by omega]
            exact this)
          (fun r row hr c q hq => g6 (l + r) row (hget r row hr) c q hq)
        rw [hlen] at this
        exact .pure this
      · simp [execOp, ho, Instr.sliceAt, run_underlying hu, Instr.slice, e1, hb w', Go.sizeOf, typeInfo, hj, hcl, hjs, add_at]

theorem qq_sliceNil {x : Operand} {t : TypeId} {ti : TI} {e es eb : Nat} {low high : Option Operand} (ho : o.op = .slice t x low high none) (hx : evalV σ x = .sc (.slice none 0 0)) (ht : TyOK P t ti) (hs : ti.sh = .slice e es eb)
    (hl : lowV σ low = some 0) (hhi : highV σ 0 high = some 0) : QQ ρ P σ C o (.sc (.slice none 0 0)) := by
  intro X T a w hh
  obtain ⟨hu, j, hj, hjs, hjb⟩ := slice_of ht hs
  have e1 := rep_sc (ev_rep hh hx)
  refine ⟨_, .pure (.sc _), fun w' hw hsm => ?_⟩
  have hb := bounds_run (P := P) hh w' (cap := 0) true hl hhi (Nat.le_refl _) (Nat.le_refl _) (Nat.le_refl _)
  simp [execOp, ho, Instr.sliceAt, run_underlying hu, Instr.slice, e1, hb, Go.sizeOf, typeInfo, hj]

/-! ### Bits, signs, arrays -/

theorem qq_shl {x y : Operand} {t u : TypeId} {k k' : IntKind} {m : Int} {n : Nat} (ho : o.op = .binOp .shl t x y u) (hx : evalV σ x = .int k m) (hy : evalV σ y = .int k' (.ofNat n)) : QQ ρ P σ C o (.int k (k.wrap (m * 2 ^ min n k.bits))) := by
  intro X T a w h
  have e1 := rep_int (ev_rep h hx)
  have e2 := rep_int (ev_rep h hy)
  exact ⟨_, .pure (.int _ _), fun w' hw hsm => by
    have hn : ¬ ((n : Int) < 0) := by omega
    simp [execOp, ho, e1, e2, eqGuard, binOp, Op.shift, hn]⟩

theorem qq_shr {x y : Operand} {t u : TypeId} {k k' : IntKind} {m : Int} {n : Nat} (ho : o.op = .binOp .shr t x y u) (hx : evalV σ x = .int k m) (hy : evalV σ y = .int k' (.ofNat n)) : QQ ρ P σ C o (.int k (m.fdiv (2 ^ min n k.bits))) := by
  intro X T a w h
  have e1 := rep_int (ev_rep h hx)
  have e2 := rep_int (ev_rep h hy)
  exact ⟨_, .pure (.int _ _), fun w' hw hsm => by
    have hn : ¬ ((n : Int) < 0) := by omega
    simp [execOp, ho, e1, e2, eqGuard, binOp, Op.shift, hn]⟩

theorem qq_neg {x : Operand} {t : TypeId} {k : IntKind} {m : Int} (ho : o.op = .unOp .neg t x) (hx : evalV σ x = .int k m) : QQ ρ P σ C o (.int k (k.wrap (0 - m))) := by
  intro X T a w h
  have e1 := rep_int (ev_rep h hx)
  exact ⟨_, .pure (.int _ _), fun w' hw hsm => by simp [execOp, ho, e1, Op.unary, Op.intArith]⟩

theorem qq_cpl {x : Operand} {t : TypeId} {k : IntKind} {m : Int} (ho : o.op = .unOp .xor t x) (hx : evalV σ x = .int k m) : QQ ρ P σ C o (.int k (k.wrap (BitVec.ofInt k.bits (if k.signed then -1 else k.max) ^^^ BitVec.ofInt k.bits m).toNat)) := by
  intro X T a w h
  have e1 := rep_int (ev_rep h hx)
  exact ⟨_, .pure (.int _ _), fun w' hw hsm => by simp [execOp, ho, e1, Op.unary, bits_xor]⟩

/-- An array's type: how many, of how many cells each. -/
def arrOf (P : Program) (t : TypeId) : Option (Nat × Nat) := match P.underlying t with
  | some (.array n e) => (P.info? e).map fun i => (n, i.size)
  | _ => none
theorem arrOf_ok {t : TypeId} {n es : Nat} (h : arrOf P t = some (n, es)) : ∃ e i, P.underlying t = some (.array n e) ∧ P.info? e = some i ∧ i.size = es := by
  unfold arrOf at h
  split at h
  · rename_i n' e hu
    obtain ⟨i, h1, h2⟩ := Option.map_eq_some_iff.mp h
    cases h2
    exact ⟨e, i, hu, h1, rfl⟩
  · cases h

theorem qq_indexArr_ptr {x y : Operand} {t : TypeId} {n es j r c i : Nat} {kd : IntKind} (ho : o.op = .indexAddr t x y) (hx : evalV σ x = .ptr j r c) (hy : evalV σ y = .int kd (.ofNat i)) (ht : arrOf P t = some (n, es)) (hi : i < n) :
    QQ ρ P σ C o (.ptr j r (c + i * es)) := by
  intro X T a w h
  obtain ⟨e, ti, hu, hj, hs⟩ := arrOf_ok ht
  obtain ⟨p, hT, e1⟩ := rep_ptr (ev_rep h hx)
  have e2 := rep_int (ev_rep h hy)
  have hi' : (i : Int) < (n : Int) := by omega
  refine ⟨_, .ptr j r (c + i * es) p hT, fun w' hw hsm => ?_⟩
  simp [execOp, ho, e1, e2, Instr.indexAt, Instr.sureAddr, asIntOf, run_underlying hu, Go.sizeOf, typeInfo, hj, hs, hi, hi', add_at, Nat.add_assoc]

theorem qq_indexArr_pro {x y : Operand} {t : TypeId} {n es i : Nat} {cells : List V} {kd : IntKind} (ho : o.op = .indexAddr t x y) (hx : evalV σ x = .pro cells) (hy : evalV σ y = .int kd (.ofNat i)) (ht : arrOf P t = some (n, es)) (hi : i < n) :
    QQ ρ P σ C o (.pro (cells.drop (i * es))) := by
  intro X T a w h
  obtain ⟨e, ti, hu, hj, hs⟩ := arrOf_ok ht
  obtain ⟨b, p, val, e1, h1, h2, h3, h4, h5⟩ := rep_pro (ev_rep h hx)
  have e2 := rep_int (ev_rep h hy)
  have hi' : (i : Int) < (n : Int) := by omega
  refine ⟨.pointer (some ⟨b, p + i * es, none⟩), .pure (.pro _ b _ (fun c => val (i * es + c)) h1 h2 (fun q hq => h3 q (List.mem_of_mem_drop hq)) (fun c q hq => ?_) (fun c q hq => ?_)), fun w' hw hsm => ?_⟩
  · rw [List.getElem?_drop] at hq
    rw [Nat.add_assoc]
    exact h4 _ q hq
  · rw [List.getElem?_drop] at hq
    exact h5 _ q hq
  · simp [execOp, ho, e1, e2, Instr.indexAt, Instr.sureAddr, asIntOf, run_underlying hu, Go.sizeOf, typeInfo, hj, hs, hi, hi', add_at]

theorem qq_max {x y : Operand} {ats : Array TypeId} {k : IntKind} {m n : Int} (ho : o.op = .call { callee := .builtin .max, args := #[x, y], argTypes := ats }) (hx : evalV σ x = .int k m) (hy : evalV σ y = .int k n) :
    QQ ρ P σ C o (.int k (if n > m then n else m)) := by
  intro X T a w hh
  have e1 := rep_int (ev_rep hh hx)
  have e2 := rep_int (ev_rep hh hy)
  exact ⟨_, .pure (.int _ _), fun w' hw hsm => by simp [execOp, ho, resolve, e1, e2, invoke, builtin, Builtin.max_, Builtin.max2]⟩

/-! ### The smaller one -/

theorem qq_min {x y : Operand} {ats : Array TypeId} {k : IntKind} {m n : Int} (ho : o.op = .call { callee := .builtin .min, args := #[x, y], argTypes := ats }) (hx : evalV σ x = .int k m) (hy : evalV σ y = .int k n) :
    QQ ρ P σ C o (.int k (if n < m then n else m)) := by
  intro X T a w hh
  have e1 := rep_int (ev_rep hh hx)
  have e2 := rep_int (ev_rep hh hy)
  exact ⟨_, .pure (.int _ _), fun w' hw hsm => by simp [execOp, ho, resolve, e1, e2, invoke, builtin, Builtin.min_, Builtin.min2]⟩

end quiet
end Go.Proofs.YtibmbbogjkecoaaDoor.M

/- Code: one behind the other, tests, blocks, loops; regions in the order of the text. -/
namespace Go.Proofs.YtibmbbogjkecoaaDoor.M
open Go Go.RowKit
set_option linter.unusedSimpArgs false
set_option linter.unusedVariables false

inductive Ex where
  | normal
  | exit (id : Nat)
  | ret
  | panic (v : V)

/-- What outlives a panic. -/
def St.keepS (σ : St) : St := { σ with tmps := fun t => match σ.ks t with | true => σ.tmps t | false => .un }

variable {ρ : Nat → Value}

/-- Less is known of some slots. -/
theorem HoldsT.less {X : Ctx} {T : Tab} {σ : St} {a : Act} {w : World} (h : HoldsT ρ X T σ a w) (f : Nat → V) (hf : ∀ t, f t = σ.tmps t ∨ f t = .un) : HoldsT ρ X T { σ with tmps := f } a w :=
  ⟨h.pre, h.mem, h.top, fun t => by
    show Rep ρ w _ T (f t) _
    rcases hf t with e | e
    · rw [e]; exact h.tmp t
    · rw [e]; exact rep_un, h.size, h.defers, h.keep, h.fresh, h.old, h.stay, h.pc, h.hforb, h.hks⟩

theorem HoldsT.keepS {X : Ctx} {T : Tab} {σ : St} {a : Act} {w : World} (h : HoldsT ρ X T σ a w) : HoldsT ρ X T σ.keepS a w :=
  h.less _ fun t => by cases σ.ks t <;> simp

/-- What holds behind a piece of code, said of the machine. -/
def Post (ρ : Nat → Value) (X : Ctx) (K : Ex → St → Prop) : Exit → Act → World → Prop
  | .normal, a, w => ∃ T σ, K .normal σ ∧ HoldsT ρ X T σ a w
  | .exit id, a, w => ∃ T σ, K (.exit id) σ ∧ HoldsT ρ X T σ a w
  | .ret, a, w => ∃ T σ, K .ret σ ∧ HoldsT ρ X T σ a w
  | .panic chain, a, w => ∃ T σ v x, chain = [{ v := x, recovered := false }] ∧ K (.panic v) σ ∧ Rep ρ w (Live X.A T σ.objs) T v x ∧ HoldsT ρ X T σ.keepS a w
  | _, _, _ => False

def QC (ρ : Nat → Value) (P : Program) (c : Code) (σ : St) (K : Ex → St → Prop) : Prop :=
  ∀ (X : Ctx) (T : Tab) (a : Act) (w : World), HoldsT ρ X T σ a w → c.wp P (Post ρ X K) a w

theorem Post.mono {X : Ctx} {K K' : Ex → St → Prop} (h : ∀ e σ, K e σ → K' e σ) : ∀ (e : Exit) (a : Act) (w : World), Post ρ X K e a w → Post ρ X K' e a w := by
  intro e a w hp
  cases e with
  | normal => obtain ⟨T, σ, h1, h2⟩ := hp; exact ⟨T, σ, h _ _ h1, h2⟩
  | exit id => obtain ⟨T, σ, h1, h2⟩ := hp; exact ⟨T, σ, h _ _ h1, h2⟩
  | ret => obtain ⟨T, σ, h1, h2⟩ := hp; exact ⟨T, σ, h _ _ h1, h2⟩
  | panic c => obtain ⟨T, σ, v, x, h1, h2, h3⟩ := hp; exact ⟨T, σ, v, x, h1, h _ _ h2, h3⟩
  | goto l => exact hp
  | outgrown => exact hp

variable {P : Program} {σ : St} {K : Ex → St → Prop}

theorem QC.mono {c : Code} {K' : Ex → St → Prop} (h : QC ρ P c σ K) (hk : ∀ e σ, K e σ → K' e σ) : QC ρ P c σ K' :=
  fun X T a w hh => wp_mono (h X T a w hh) (Post.mono hk)

def thenK (K : Ex → St → Prop) (N : St → Prop) : Ex → St → Prop
  | .normal, σ => N σ
  | e, σ => K e σ

theorem q_seq {x y : Code} (h : QC ρ P x σ (thenK K fun σ' => QC ρ P y σ' K)) : QC ρ P (.seq x y) σ K := by
  intro X T a w hh
  refine wp_seq (wp_mono (h X T a w hh) ?_)
  intro e a' w' hp
  cases e with
  | normal => obtain ⟨T', σ', h1, h2⟩ := hp; exact h1 X T' a' w' h2
  | exit id => exact hp
  | ret => exact hp
  | panic c => exact hp
  | goto l => exact hp
  | outgrown => exact hp

theorem q_skip (h : K .normal σ) : QC ρ P .skip σ K := fun X T a w hh => wp_skip ⟨T, σ, h, hh⟩
theorem q_exit {id : Nat} (h : K (.exit id) σ) : QC ρ P (.exit id) σ K := fun X T a w hh => wp_exit ⟨T, σ, h, hh⟩
theorem q_ret (h : K .ret σ) : QC ρ P .ret σ K := fun X T a w hh => wp_ret ⟨T, σ, h, hh⟩

theorem q_cond {c : Operand} {x y : Code} {t : Bool} (hc : evalV σ c = .bool t) (h : QC ρ P (match t with | true => x | false => y) σ K) : QC ρ P (.cond c x y) σ K := by
  intro X T a w hh
  refine wp_cond (rep_bool (ev_rep hh hc)) ?_
  cases t with
  | true => exact h X T a w hh
  | false => exact h X T a w hh

def blockK (id : Nat) (K : Ex → St → Prop) : Ex → St → Prop
  | .exit j, σ => match Nat.beq j id with
    | true => K .normal σ
    | false => K (.exit j) σ
  | e, σ => K e σ

theorem q_block {id : Nat} {c : Code} (h : QC ρ P c σ (blockK id K)) : QC ρ P (.block id c) σ K := by
  intro X T a w hh
  refine wp_block (wp_mono (h X T a w hh) ?_)
  intro e a' w' hp
  cases e with
  | exit j =>
    obtain ⟨T', σ', h1, h2⟩ := hp
    show if j = id then Post ρ X K .normal a' w' else Post ρ X K (.exit j) a' w'
    by_cases e : j = id
    · subst e
      rw [if_pos rfl]
      simp only [blockK, Nat.beq_refl] at h1
      exact ⟨T', σ', h1, h2⟩
    · rw [if_neg e]
      have : Nat.beq j id = false := by
        cases hb : Nat.beq j id with
        | false => rfl
        | true => exact absurd (Nat.eq_of_beq_eq_true hb) e
      simp only [blockK, this] at h1
      exact ⟨T', σ', h1, h2⟩
  | normal => exact hp
  | ret => exact hp
  | panic c => exact hp
  | goto l => exact hp
  | outgrown => exact hp

/-- Rounds of a loop, one by one. -/
def QR (ρ : Nat → Value) (P : Program) (c : Code) (K : Ex → St → Prop) : Nat → St → Prop
  | 0, _ => False
  | n + 1, σ => QC ρ P c σ (thenK K (QR ρ P c K n))

theorem QR.mono {c : Code} : ∀ (n m : Nat) (σ : St), n ≤ m → QR ρ P c K n σ → QR ρ P c K m σ
  | 0, _, _, _, h => h.elim
  | n + 1, 0, _, hm, _ => by omega
  | n + 1, m + 1, σ, hm, h => QC.mono h fun e σ' h' => by
    cases e with
    | normal => exact QR.mono n m σ' (by omega) h'
    | _ => exact h'

theorem QR.sound {c : Code} : ∀ (n : Nat) (σ : St), QR ρ P c K n σ → ∀ (X : Ctx) (T : Tab) (a : Act) (w : World), HoldsT ρ X T σ a w → Code.rounds P c (Post ρ X K) n a w
  | 0, σ, h, _, _, _, _, _ => h.elim
  | n + 1, σ, h, X, T, a, w, hh => by
    rw [rounds_succ]
    refine wp_mono (h X T a w hh) ?_
    intro e a' w' hp
    cases e with
    | normal => obtain ⟨T', σ', h1, h2⟩ := hp; exact QR.sound n σ' h1 X T' a' w' h2
    | exit id => exact hp
    | ret => exact hp
    | panic c => exact hp
    | goto l => exact hp
    | outgrown => exact hp

theorem q_rounds {c : Code} (n : Nat) (h : QR ρ P c K n σ) : QC ρ P (.loop c) σ K := fun X T a w hh => wp_loop_rounds n (QR.sound n σ h X T a w hh)

/-! ### Operations -/

/-- From one state of things to the next one, where the cells of C are let alone. -/
structure StepT (C : CellP) (T : Tab) (objs : Objs) (w : World) (T' : Tab) (objs' : Objs) (w' : World) : Prop where
  stab : Stab (LiveO T objs) w w'
  cells : SameC T objs C w w'
  ext : ∀ (k : Nat) (p : Pl), T k = some p → T' k = some p
  stay : ∀ k r c, C k r c → objs k ≠ none → objs' k ≠ none
  live : ∀ b, b < w.heap.size → LiveO T' objs' b → LiveO T objs b
  map : ∀ (k : Nat) (p : Pl), T' k = some p → p.b < w.heap.size → ∃ k' p', T k' = some p' ∧ p'.b = p.b

theorem StepT.refl (C : CellP) (T : Tab) (objs : Objs) (w : World) : StepT C T objs w T objs w :=
  ⟨Stab.refl _ _, SameC.refl _ _ _ _, fun _ _ h => h, fun _ _ _ _ h => h, fun _ _ h => h, fun k p h _ => ⟨k, p, h, rfl⟩⟩

/-- An operation that writes no cell of C. -/
def QO (ρ : Nat → Value) (P : Program) (C : CellP) (o : Oper) (σ : St) (N : St → Prop) (K : Ex → St → Prop) : Prop :=
  ∀ (X : Ctx) (T : Tab) (a : Act) (w : World), HoldsT ρ X T σ a w →
    o.wp P a w (fun a' w' => ∃ T' σ', N σ' ∧ HoldsT ρ X T' σ' a' w' ∧ StepT C T σ.objs w T' σ'.objs w') (Post ρ X K)

theorem QO.mono {C : CellP} {o : Oper} {N N' : St → Prop} (h : QO ρ P C o σ N K) (hn : ∀ σ, N σ → N' σ) : QO ρ P C o σ N' K :=
  fun X T a w hh => Oper.wp_mono (fun _ _ ⟨T', σ', h1, h2, h3⟩ => ⟨T', σ', hn _ h1, h2, h3⟩) (h X T a w hh)

/-- Is the slot that is written one of the frame's? -/
def dstOK (o : Oper) (σ : St) : Prop := ∀ t, o.dst = some t → t < σ.n

theorem put_objs (σ : St) (d : Option Tmp) (v : V) : (σ.put d v).objs = σ.objs := by cases d <;> rfl

theorem HoldsT.put {X : Ctx} {T : Tab} {a : Act} {w : World} (h : HoldsT ρ X T σ a w) {d : Option Tmp} {v : V} {x : Value} (hx : Rep ρ w (Live X.A T σ.objs) T v x)
    (hd : ∀ t, d = some t → t < σ.n) : HoldsT ρ X T (σ.put d v) (a.put d x) w := by
  cases d with
  | none => exact h
  | some t =>
    have ht := hd t rfl
    refine ⟨h.pre, h.mem, h.top, ?_, ?_, h.defers, h.keep, h.fresh, h.old, h.stay, h.pc, h.hforb, h.hks⟩
    · intro u
      show Rep ρ w _ T (if u = t then v else σ.tmps u) ((a.tmps.setIfInBounds t x).getD u undef)
      by_cases e : u = t
      · subst e
        rw [if_pos rfl]
        have : (a.tmps.setIfInBounds u x)[u]? = some x := by simp [h.size, ht]
        rw [getD_of this]
        exact hx
      · rw [if_neg e]
        have : (a.tmps.setIfInBounds t x).getD u undef = a.tmps.getD u undef := by
          simp [Array.getD_eq_getD_getElem?, Array.getElem?_setIfInBounds, Ne.symm e]
        rw [this]
        exact h.tmp u
    · show (a.tmps.setIfInBounds t x).size = σ.n
      simp [h.size]

theorem qo_quiet {C : CellP} {o : Oper} {v : V} {N : St → Prop} (hq : QQ ρ P σ C o v) (hd : dstOK o σ) (h : N (σ.put o.dst v)) : QO ρ P C o σ N K := by
  intro X T a w hh
  obtain ⟨x, hx, hrun⟩ := hq X T a w hh
  unfold Oper.wp
  rw [hrun w (Stab.refl _ _) (SameC.refl _ _ _ _)]
  refine ⟨T, _, h, hh.put hx hd, ?_⟩
  rw [put_objs]
  exact StepT.refl _ _ _ _

/-! ### Regions in the order of the text -/

/-- What a guard's slot says: is the operation wanted? -/
def wantV (ops : Array Oper) (σ : St) (o : Oper) : Option Bool :=
  match o.guard with
  | none => some true
  | some (j, b) => match (ops[j]?).bind (·.dst) with
    | none => none
    | some t => match σ.tmps t with
      | .bool x => some (x == b)
      | .sc (.tuple _) => some false
      | _ => none

theorem wantV_spec {X : Ctx} {T : Tab} {a : Act} {w : World} (h : HoldsT ρ X T σ a w) {ops : Array Oper} {o : Oper} {b : Bool} (hw : wantV ops σ o = some b) :
    Region.wanted o (yielded ops a.tmps) = b := by
  unfold wantV at hw
  unfold Region.wanted
  split at hw
  · rename_i hg
    cases hw
    rw [hg]
  · rename_i j c hg
    rw [hg]
    simp only
    split at hw
    · cases hw
    · rename_i t ht
      have hr0 := h.tmp t
      split at hw
      · rename_i y hl
        cases hw
        rw [hl] at hr0
        have hr := rep_bool hr0
        have : a.tmps[t]? = some (.bool y) := by
          rw [Array.getD_eq_getD_getElem?] at hr
          cases he : a.tmps[t]? with
          | none => rw [he] at hr; simp [undef] at hr
          | some z => rw [he] at hr; simp at hr; rw [hr]
        simp [yielded, ht, this]
      · rename_i y hl
        cases hw
        rw [hl] at hr0
        have hr := rep_sc hr0
        rw [Array.getD_eq_getD_getElem?] at hr
        cases he : a.tmps[t]? with
        | none => simp [yielded, ht, he]
        | some z => rw [he] at hr; simp at hr; simp [yielded, ht, he, hr]
      · cases hw

/-- Operations one behind the other. -/
def QS (ρ : Nat → Value) (P : Program) (ops : Array Oper) (K : Ex → St → Prop) (todo : List Oper) (σ : St) : Prop :=
  ∀ (X : Ctx) (T : Tab) (a : Act) (w : World), HoldsT ρ X T σ a w → wpList P ops (Post ρ X K) todo a w

theorem q_region {id : Nat} {ops : Array Oper} (h : QS ρ P ops K ops.toList σ) : QC ρ P (.region id ops false) σ K := fun X T a w hh => wp_region_list (h X T a w hh)

theorem qs_done {ops : Array Oper} (h : K .normal σ) : QS ρ P ops K [] σ := fun X T a w hh => ⟨T, σ, h, hh⟩

theorem qs_by {ops : Array Oper} {o : Oper} {rest : List Oper} {C : CellP} (hw : wantV ops σ o = some true) (h : QO ρ P C o σ (QS ρ P ops K rest) K) : QS ρ P ops K (o :: rest) σ := by
  intro X T a w hh
  unfold wpList
  rw [if_pos (wantV_spec hh hw)]
  exact .inl (Oper.wp_mono (fun a' w' ⟨T', σ', h3, h4, _⟩ => h3 X T' a' w' h4) (h X T a w hh))

theorem qs_skip {ops : Array Oper} {o : Oper} {rest : List Oper} (hw : wantV ops σ o = some false) (hd : dstOK o σ) (h : QS ρ P ops K rest (σ.put o.dst (.sc undef))) : QS ρ P ops K (o :: rest) σ := by
  intro X T a w hh
  unfold wpList
  rw [if_neg (by rw [wantV_spec hh hw]; simp)]
  exact h X T _ w (hh.put (.pure (.sc _)) hd)

end Go.Proofs.YtibmbbogjkecoaaDoor.M

/- What makes objects, what writes them. -/
namespace Go.Proofs.YtibmbbogjkecoaaDoor.M
open Go Go.RowKit
set_option linter.unusedSimpArgs false
set_option linter.unusedVariables false

variable {ρ : Nat → Value} {P : Program} {σ : St} {K : Ex → St → Prop}

theorem one_of_rep {w : World} {L : Nat → Prop} {T : Tab} {q : V} {v : Value} (h : Rep ρ w L T q v) (hq : q.one = true) : v.oneCell' = true := by
  cases h with
  | pure h => cases h with
    | sc v => cases v <;> first | rfl | simp [V.one] at hq
    | un => simp [V.one] at hq
    | sym i h => exact h
    | _ => rfl
  | ptr => rfl
  | sl => rfl
  | fn => rfl
  | bnd => rfl
  | mapr => rfl
  | ifc => rfl
  | agg => simp [V.one] at hq
  | tup => simp [V.one] at hq

theorem cells_of_rep {w : World} {L : Nat → Prop} {T : Tab} {q : V} {v : Value} (h : Rep ρ w L T q v) (hq : q.one = true) : v.cells = #[v] := by
  have := one_of_rep h hq
  cases v <;> first | rfl | simp [Value.oneCell'] at this

theorem lt_heap {w : World} {b : Nat} {o : Obj} (h : w.heap[b]? = some o) : b < w.heap.size := by
  rcases Nat.lt_or_ge b w.heap.size with g | g
  · exact g
  · rw [Array.getElem?_eq_none g] at h; cases h

/-- What a value's cells are. -/
def cellsV : V → List V
  | .agg l => l
  | q => [q]

theorem cellsV_rep {w : World} {L : Nat → Prop} {T : Tab} {q : V} {v : Value} (h : Rep ρ w L T q v) (hq : (cellsV q).all V.one = true) :
    v.cells.size = (cellsV q).length ∧ ∀ (i : Nat) (p : V), (cellsV q)[i]? = some p → ∃ x, v.cells[i]? = some x ∧ Rep ρ w L T p x := by
  by_cases ha : ∃ l, q = .agg l
  · obtain ⟨l, rfl⟩ := ha
    obtain ⟨vs, rfl, hs, hr⟩ := rep_agg h
    exact ⟨hs, fun i p hp => agg_at hs hr i p hp⟩
  · have hc : cellsV q = [q] := by cases q <;> first | rfl | exact absurd ⟨_, rfl⟩ ha
    rw [hc] at hq ⊢
    simp at hq
    rw [cells_of_rep h hq]
    refine ⟨rfl, fun i p hp => ?_⟩
    cases i with
    | zero => simp at hp; subst hp; exact ⟨v, rfl, h⟩
    | succ i => simp at hp

/-! ### A block more -/

/-- The world with a block more. -/
def more (w : World) (o : Obj) : World := { w with heap := w.heap.push o }

theorem more_old (w : World) (o : Obj) {b : Nat} (h : b < w.heap.size) : (more w o).heap[b]? = w.heap[b]? := by
  show (w.heap.push o)[b]? = w.heap[b]?
  rw [Array.getElem?_push, if_neg (by omega)]
theorem more_new (w : World) (o : Obj) : (more w o).heap[w.heap.size]? = some o := by
  show (w.heap.push o)[w.heap.size]? = some o
  rw [Array.getElem?_push, if_pos rfl]
theorem more_size (w : World) (o : Obj) : (more w o).heap.size = w.heap.size + 1 := by
  show (w.heap.push o).size = w.heap.size + 1
  simp

theorem stab_more {N : Nat → Prop} (w : World) (o : Obj) : Stab N w (more w o) := ⟨by rw [more_size]; omega, fun b hb _ => more_old w o hb⟩

def Tab.put (T : Tab) (k : Nat) (p : Pl) : Tab := fun j => if j = k then some p else T j
def Objs.put (O : Objs) (k : Nat) (ob : Option Ob) : Objs := fun j => if j = k then ob else O j

theorem rep_lt {w : World} {A : Nat → Prop} {T : Tab} {objs : Objs} (hm : HoldsM ρ w A T objs) {b : Nat} (h : LiveO T objs b) : b < w.heap.size := by
  obtain ⟨k, ob, p, h1, h2, rfl⟩ := h
  obtain ⟨p', h3, _, h4⟩ := hm.obj k ob h1
  rw [h2] at h3
  cases h3
  exact h4.heap

/-- The world drew once more: nothing else. -/
theorem HoldsT.congr {X : Ctx} {T : Tab} {a : Act} {w w' : World} (h : HoldsT ρ X T σ a w) (hh : w'.heap = w.heap) (ho : w'.os = w.os) (ht : w'.tape = w.tape) (hout : w'.output = w.output) : HoldsT ρ X T σ a w' := by
  have hrep : ∀ (q : V) (v : Value), Rep ρ w (Live X.A T σ.objs) T q v → Rep ρ w' (Live X.A T σ.objs) T q v := fun q v hr =>
    hr.later (by rw [hh]; exact Nat.le_refl _) (fun b _ _ => by rw [hh]) (fun _ _ h => h) (fun b C t fr hb => ⟨C, fr, by rw [hh]; exact hb, rfl⟩) (fun _ _ h => h)
  have hdef : ∀ (l : List V) (ds : List Deferred), RepDefs ρ w (Live X.A T σ.objs) T l ds → RepDefs ρ w' (Live X.A T σ.objs) T l ds := by
    intro l
    induction l with
    | nil => intro ds hd; cases ds <;> exact hd
    | cons q l ih =>
      intro ds hd
      cases ds with
      | nil => exact hd
      | cons d ds =>
        obtain ⟨⟨f, caps, vs, h1, h2, h3⟩, h4⟩ := hd
        exact ⟨⟨f, caps, vs, h1, h2, hrep _ _ h3⟩, ih ds h4⟩
  refine ⟨h.pre, ⟨fun b hb => by rw [hh]; exact h.mem.avoid b hb, fun k p hk => by rw [hh]; exact h.mem.low k p hk, ?_, h.mem.inj, h.mem.glob.later (by rw [hh]; exact Nat.le_refl _) (fun b _ _ => by rw [hh]) (fun b _ hn => hn)⟩, h.top, fun t => hrep _ _ (h.tmp t), h.size, hdef _ _ h.defers,
    ⟨ho.trans h.keep.os, ht.trans h.keep.tape, hout.trans h.keep.output, by rw [hh]; exact h.keep.size, fun b hb hn => by rw [hh]; exact h.keep.block b hb hn, fun b C t fr hb => by rw [hh]; exact h.keep.shape b C t fr hb⟩,
    h.fresh, h.old, h.stay, fun k r c p h1 h2 h3 h4 => (cell_of_heap (w := w) (by rw [hh])).trans (h.pc k r c p h1 h2 h3 h4), h.hforb, h.hks⟩
  intro k ob hk
  obtain ⟨p, h1, hA, h2⟩ := h.mem.obj k ob hk
  exact ⟨p, h1, hA, h2.later (by rw [hh]) hrep⟩

theorem RepDefs.map {w w' : World} {L L' : Nat → Prop} {T T' : Tab} (hr : ∀ q v, Rep ρ w L T q v → Rep ρ w' L' T' q v) : ∀ {l : List V} {ds : List Deferred}, RepDefs ρ w L T l ds → RepDefs ρ w' L' T' l ds
  | [], [], h => h
  | [], _ :: _, h => h.elim
  | _ :: _, [], h => h.elim
  | q :: l, d :: ds, ⟨⟨f, caps, vs, h1, h2, h3⟩, h4⟩ => ⟨⟨f, caps, vs, h1, h2, hr _ _ h3⟩, RepDefs.map hr h4⟩

/-- An object more, whatever its block is. -/
theorem HoldsT.newO {X : Ctx} {T : Tab} {a : Act} {w : World} (h : HoldsT ρ X T σ a w) (ob : Ob) (o : Obj) (hO : ∀ (w' : World) (L' : Nat → Prop) (T' : Tab), w'.heap[w.heap.size]? = some o → (∀ (q : V) (v : Value), Rep ρ w (Live X.A T σ.objs) T q v → Rep ρ w' L' T' q v) → RepOb ρ w' L' T' ⟨w.heap.size, 0, ob.s⟩ ob) :
    HoldsT ρ X (T.put σ.next ⟨w.heap.size, 0, ob.s⟩) { σ with objs := Objs.put σ.objs σ.next (some ob), next := σ.next + 1 } a (more w o) ∧
    (∀ (q : V) (v : Value), Rep ρ w (Live X.A T σ.objs) T q v → Rep ρ (more w o) (Live X.A (T.put σ.next ⟨w.heap.size, 0, ob.s⟩) (Objs.put σ.objs σ.next (some ob))) (T.put σ.next ⟨w.heap.size, 0, ob.s⟩) q v) ∧
    ∀ D : CellP, StepT D T σ.objs w (T.put σ.next ⟨w.heap.size, 0, ob.s⟩) (Objs.put σ.objs σ.next (some ob)) (more w o) := by
  obtain ⟨htop1, htop2⟩ := h.top σ.next (Nat.le_refl _)
  have hT : ∀ (k : Nat) (p : Pl), T k = some p → (T.put σ.next ⟨w.heap.size, 0, ob.s⟩) k = some p := fun k p hk => by
    unfold Tab.put
    rw [if_neg (fun e => by subst e; rw [htop1] at hk; cases hk)]
    exact hk
  have hliveO : ∀ b, b < w.heap.size → LiveO (T.put σ.next ⟨w.heap.size, 0, ob.s⟩) (Objs.put σ.objs σ.next (some ob)) b → LiveO T σ.objs b := by
    rintro b hb ⟨k, ob', p, h1, h2, h3⟩
    unfold Objs.put at h1
    unfold Tab.put at h2
    by_cases e : k = σ.next
    · rw [if_pos e] at h2
      cases h2
      simp only at h3
      omega
    · rw [if_neg e] at h1 h2
      exact ⟨k, ob', p, h1, h2, h3⟩
  have hlive : ∀ b, b < w.heap.size → Live X.A (T.put σ.next ⟨w.heap.size, 0, ob.s⟩) (Objs.put σ.objs σ.next (some ob)) b → Live X.A T σ.objs b := fun b hb h => h.imp id (hliveO b hb)
  have hrep : ∀ (q : V) (v : Value), Rep ρ w (Live X.A T σ.objs) T q v → Rep ρ (more w o) (Live X.A (T.put σ.next ⟨w.heap.size, 0, ob.s⟩) (Objs.put σ.objs σ.next (some ob))) (T.put σ.next ⟨w.heap.size, 0, ob.s⟩) q v :=
    fun q v hq => hq.later (by rw [more_size]; omega) (fun b hb _ => more_old w _ hb) (fun b hb hn hl => hn (hlive b hb hl)) (fun b C' t' fr hb => ⟨C', fr, by rw [more_old w _ (lt_heap hb)]; exact hb, rfl⟩) hT
  refine ⟨⟨fun k p hk => hT k p (h.pre k p hk), ⟨fun b hb => by rw [more_size]; have := h.mem.avoid b hb; omega, fun k p hk => by
    rw [more_size]
    unfold Tab.put at hk
    split at hk
    · cases hk; simp
    · have := h.mem.low k p hk; omega, ?_, ?_, h.mem.glob.later (by rw [more_size]; omega) (fun b hb _ => more_old w _ hb) (fun b hb hn hl => hn (hlive b hb hl))⟩, ?_, fun t => hrep _ _ (h.tmp t), h.size, h.defers.map hrep, ?_, ?_, ?_, ?_, h.pc.trans' (fun _ _ _ h => h) h.stay h.pre (SameC.of_blocks h.mem.low fun b hb => more_old w _ hb), h.hforb, h.hks⟩, hrep, fun D => ⟨stab_more w _, SameC.of_blocks h.mem.low fun b hb => more_old w _ hb, hT, ?_, hliveO, ?_⟩⟩
  · intro k x hk
    have hk' : Objs.put σ.objs σ.next (some ob) k = some x := hk
    unfold Objs.put at hk'
    by_cases e : k = σ.next
    · rw [if_pos e] at hk'
      cases hk'
      exact ⟨⟨w.heap.size, 0, ob.s⟩, by unfold Tab.put; rw [if_pos e], fun hA => absurd (h.mem.avoid _ hA) (Nat.lt_irrefl _), hO _ _ _ (more_new w _) hrep⟩
    · rw [if_neg e] at hk'
      obtain ⟨p, h1, hA, h2⟩ := h.mem.obj k x hk'
      exact ⟨p, hT _ _ h1, hA, h2.later (more_old w _ h2.heap) hrep⟩
  · intro i j x y p q hi hj hpi hpj hb
    have hi' : Objs.put σ.objs σ.next (some ob) i = some x := hi
    have hj' : Objs.put σ.objs σ.next (some ob) j = some y := hj
    unfold Objs.put at hi' hj'
    unfold Tab.put at hpi hpj
    have low : ∀ (k : Nat) (z : Ob) (r : Pl), σ.objs k = some z → T k = some r → r.b < w.heap.size := fun k z r h1 h2 => rep_lt h.mem ⟨k, z, r, h1, h2, rfl⟩
    by_cases e1 : i = σ.next <;> by_cases e2 : j = σ.next
    · omega
    · rw [if_pos e1] at hpi
      rw [if_neg e2] at hj' hpj
      have := low j y q hj' hpj
      cases hpi
      simp only at hb
      omega
    · rw [if_pos e2] at hpj
      rw [if_neg e1] at hi' hpi
      have := low i x p hi' hpi
      cases hpj
      simp only at hb
      omega
    · rw [if_neg e1] at hi' hpi
      rw [if_neg e2] at hj' hpj
      exact h.mem.inj i j x y p q hi' hj' hpi hpj hb
  · intro k hk
    have hk : σ.next + 1 ≤ k := hk
    obtain ⟨g1, g2⟩ := h.top k (by omega)
    show (Tab.put T σ.next _) k = none ∧ Objs.put σ.objs σ.next (some ob) k = none
    unfold Tab.put Objs.put
    rw [if_neg (by omega), if_neg (by omega)]
    exact ⟨g1, g2⟩
  · have hk := h.keep
    refine ⟨hk.os, hk.tape, hk.output, by rw [more_size]; have := hk.size; omega, fun b hb hn => ?_, fun b C' t' fr hb => ?_⟩
    · rw [more_old w _ (Nat.lt_of_lt_of_le hb hk.size)]; exact hk.block b hb hn
    · obtain ⟨C1, f1, h1, h2⟩ := hk.shape b C' t' fr hb
      exact ⟨C1, f1, by rw [more_old w _ (lt_heap h1)]; exact h1, h2⟩
  · intro k p hk hp
    unfold Tab.put at hp
    by_cases e : k = σ.next
    · rw [if_pos e] at hp
      cases hp
      exact .inl h.keep.size
    · rw [if_neg e] at hp
      exact h.fresh k p hk hp
  · intro k h1 h2
    have h2' : Objs.put σ.objs σ.next (some ob) k ≠ none := h2
    unfold Objs.put at h2'
    by_cases e : k = σ.next
    · exfalso
      cases hx : X.T0 k with
      | none => exact h1 hx
      | some p =>
        have := h.pre k p hx
        rw [e, htop1] at this
        cases this
    · rw [if_neg e] at h2'
      exact h.old k h1 h2'
  · intro k r c h1 h2
    show Objs.put σ.objs σ.next (some ob) k ≠ none
    unfold Objs.put
    by_cases e : k = σ.next
    · rw [if_pos e]; simp
    · rw [if_neg e]; exact h.stay k r c h1 h2
  · intro k r c _ hk
    show Objs.put σ.objs σ.next (some ob) k ≠ none
    unfold Objs.put
    by_cases e : k = σ.next
    · rw [if_pos e]; simp
    · rw [if_neg e]; exact hk
  · intro k p hk hp
    unfold Tab.put at hk
    by_cases e : k = σ.next
    · rw [if_pos e] at hk
      cases hk
      simp only at hp
      omega
    · rw [if_neg e] at hk
      exact ⟨k, p, hk, rfl⟩

/-- An object more. -/
theorem HoldsT.new {X : Ctx} {T : Tab} {a : Act} {w : World} (h : HoldsT ρ X T σ a w) (ob : Ob) (hmp : ob.mp = false) (C : Array Value) (t : TypeId)
    (hC : ∀ (r : Nat) (row : List V), ob.row r = some row → row.length = ob.s ∧ (∀ q ∈ row, q.one = true) ∧ ∀ (c : Nat) (q : V), row[c]? = some q → ∃ v, C[r * ob.s + c]? = some v ∧ Rep ρ w (Live X.A T σ.objs) T q v) :
    HoldsT ρ X (T.put σ.next ⟨w.heap.size, 0, ob.s⟩) { σ with objs := Objs.put σ.objs σ.next (some ob), next := σ.next + 1 } a (more w (.cells C t (0, 0))) ∧
    (∀ (q : V) (v : Value), Rep ρ w (Live X.A T σ.objs) T q v → Rep ρ (more w (.cells C t (0, 0))) (Live X.A (T.put σ.next ⟨w.heap.size, 0, ob.s⟩) (Objs.put σ.objs σ.next (some ob))) (T.put σ.next ⟨w.heap.size, 0, ob.s⟩) q v) ∧
    ∀ D : CellP, StepT D T σ.objs w (T.put σ.next ⟨w.heap.size, 0, ob.s⟩) (Objs.put σ.objs σ.next (some ob)) (more w (.cells C t (0, 0))) := by
  refine h.newO ob _ fun w' L' T' hb hrep => ⟨rfl, fun _ => ⟨C, t, hb, fun r row hr => ?_⟩, fun e => by rw [hmp] at e; cases e⟩
  obtain ⟨g1, g2, g3⟩ := hC r row hr
  refine ⟨g1, g2, fun c q hq => ?_⟩
  obtain ⟨v, h6, h7⟩ := g3 c q hq
  exact ⟨v, by rw [Nat.zero_add]; exact h6, hrep _ _ h7⟩

/-- An operation that makes one object, and yields its address, or a slice of it. -/
theorem qo_new {C : CellP} {o : Oper} {ob : Ob} {v : V} {N : St → Prop} (hmp : ob.mp = false) (hd : dstOK o σ)
    (hrun : ∀ (X : Ctx) (T : Tab) (a : Act) (w : World), HoldsT ρ X T σ a w → ∃ (cs : Array Value) (t : TypeId) (x : Value) (w1 : World), w1.heap = w.heap ∧ w1.os = w.os ∧ w1.tape = w.tape ∧ w1.output = w.output ∧
      (execOp a.eval o).run P w = .ok (.value x) (more w1 (.cells cs t (0, 0))) ∧
      (∀ (r : Nat) (row : List V), ob.row r = some row → row.length = ob.s ∧ (∀ q ∈ row, q.one = true) ∧ ∀ (c : Nat) (q : V), row[c]? = some q → ∃ v, cs[r * ob.s + c]? = some v ∧ Rep ρ w (Live X.A T σ.objs) T q v) ∧
      ∀ (T' : Tab) (w' : World) (L : Nat → Prop), T' σ.next = some ⟨w.heap.size, 0, ob.s⟩ → w'.heap[w.heap.size]? = some (.cells cs t (0, 0)) → Rep ρ w' L T' v x)
    (h : N (({ σ with objs := Objs.put σ.objs σ.next (some ob), next := σ.next + 1 } : St).put o.dst v)) : QO ρ P C o σ N K := by
  intro X T a w hh
  obtain ⟨cs, t, x, w1, e1, e2, e3, e4, h1, h2, h3⟩ := hrun X T a w hh
  have hh1 := hh.congr e1 e2 e3 e4
  obtain ⟨g1, g2, g3⟩ := hh1.new ob hmp cs t (fun r row hr => by
    obtain ⟨k1, k2, k3⟩ := h2 r row hr
    refine ⟨k1, k2, fun c q hq => ?_⟩
    obtain ⟨v, k4, k5⟩ := k3 c q hq
    exact ⟨v, k4, k5.later (by rw [e1]; exact Nat.le_refl _) (fun b _ _ => by rw [e1]) (fun _ _ h => h) (fun b C t fr hb => ⟨C, fr, by rw [e1]; exact hb, rfl⟩) (fun _ _ h => h)⟩)
  unfold Oper.wp
  rw [h1]
  refine ⟨_, _, h, g1.put (h3 _ _ _ (by unfold Tab.put; rw [if_pos rfl, e1]) (by rw [← e1]; exact more_new w1 _)) hd, ?_⟩
  rw [put_objs]
  have := g3 C
  refine ⟨?_, fun k r c p h1 h2 h3 h4 => (this.cells k r c p h1 h2 h3 h4).trans (cell_of_heap (w := w) (by rw [e1])), this.ext, this.stay, fun b hb => by rw [← e1] at hb; exact this.live b hb, fun k p hk hb => by rw [← e1] at hb; exact this.map k p hk hb⟩
  obtain ⟨s1, s2⟩ := this.stab
  exact ⟨by rw [← e1]; exact s1, fun b hb hn => by rw [← e1] at hb ⊢; exact s2 b hb hn⟩

/-- The object that a row of cells makes. -/
def boxOb (l : List V) : Ob := ⟨l.length, fun r => match r with | 0 => some l | _ + 1 => none, false⟩

theorem qo_box {C : CellP} {o : Oper} {t : TypeId} {x : Operand} {l : List V} {N : St → Prop} (ho : o.op = .box t x) (hl : cellsV (evalV σ x) = l) (hq : l.all V.one = true) (hd : dstOK o σ)
    (h : N (({ σ with objs := Objs.put σ.objs σ.next (some (boxOb l)), next := σ.next + 1 } : St).put o.dst (.ptr σ.next 0 0))) : QO ρ P C o σ N K := by
  refine qo_new rfl hd ?_ h
  intro X T a w hh
  subst hl
  obtain ⟨h1, h2⟩ := cellsV_rep (eval_rep hh x) hq
  refine ⟨(a.eval x).cells, t, .pointer (some ⟨w.heap.size, 0, none⟩), w, rfl, rfl, rfl, rfl, by simp [execOp, ho, Instr.box, newVar, newRow, more], fun r row hr => ?_, fun T' w' L hT _ => ?_⟩
  · cases r with
    | succ r => cases hr
    | zero =>
      simp only [boxOb, Option.some.injEq] at hr
      subst hr
      exact ⟨rfl, fun p hp => List.all_eq_true.mp hq p hp, fun c p hp => by simpa using h2 c p hp⟩
  · have := Rep.ptr (ρ := ρ) (w := w') (L := L) (T := T') σ.next 0 0 _ hT
    simpa using this

theorem qo_alloc {C : CellP} {o : Oper} {t : TypeId} {ti : TI} {l : List V} {N : St → Prop} (ho : o.op = .alloc t) (ht : TyOK P t ti) (hl : ti.zero.map cv = l) (hz : l.all V.one = true) (hd : dstOK o σ)
    (h : N (({ σ with objs := Objs.put σ.objs σ.next (some (boxOb l)), next := σ.next + 1 } : St).put o.dst (.ptr σ.next 0 0))) : QO ρ P C o σ N K := by
  refine qo_new rfl hd ?_ h
  intro X T a w hh
  subst hl
  obtain ⟨z, hz1, hz2⟩ := ht.zeroValue
  refine ⟨z.cells, t, .pointer (some ⟨w.heap.size, 0, none⟩), w, rfl, rfl, rfl, rfl, by simp [execOp, ho, Instr.alloc, newVar, newRow, more, hz2], fun r row hr => ?_, fun T' w' L hT _ => ?_⟩
  · cases r with
    | succ r => cases hr
    | zero =>
      simp only [boxOb, Option.some.injEq] at hr
      subst hr
      refine ⟨rfl, fun p hp => List.all_eq_true.mp hz p hp, fun c p hp => ?_⟩
      rw [List.getElem?_map, ← hz1] at hp
      simp only [Option.map_eq_some_iff] at hp
      obtain ⟨v, hv, rfl⟩ := hp
      exact ⟨v, by simpa using hv, rep_cv _ _ _ v⟩
  · have := Rep.ptr (ρ := ρ) (w := w') (L := L) (T := T') σ.next 0 0 _ hT
    simpa using this

/-! ### A block that is written -/

/-- The world with other cells in a block. -/
def upd (w : World) (b : Nat) (C : Array Value) (t : TypeId) : World := { w with heap := w.heap.setIfInBounds b (.cells C t (0, 0)) }

theorem upd_same (w : World) {b : Nat} (C : Array Value) (t : TypeId) (hb : b < w.heap.size) : (upd w b C t).heap[b]? = some (.cells C t (0, 0)) := by
  show (w.heap.setIfInBounds b _)[b]? = _
  simp [hb]
theorem upd_other (w : World) {b b' : Nat} (C : Array Value) (t : TypeId) (hb : b' ≠ b) : (upd w b C t).heap[b']? = w.heap[b']? := by
  show (w.heap.setIfInBounds b _)[b']? = _
  rw [Array.getElem?_setIfInBounds_ne (Ne.symm hb)]
theorem upd_size (w : World) (b : Nat) (C : Array Value) (t : TypeId) : (upd w b C t).heap.size = w.heap.size := by
  show (w.heap.setIfInBounds b _).size = _
  simp

/-- Cells laid over cells from a place on. -/
def putA (C : Array Value) (off : Nat) : List Value → Array Value
  | [] => C
  | v :: vs => putA (C.setIfInBounds off v) (off + 1) vs

theorem putA_size (vs : List Value) : ∀ (C : Array Value) (off : Nat), (putA C off vs).size = C.size := by
  induction vs with
  | nil => intro C off; rfl
  | cons v vs ih => intro C off; rw [putA, ih]; simp

theorem putA_get (vs : List Value) : ∀ (C : Array Value) (off i : Nat), off + vs.length ≤ C.size → (putA C off vs)[i]? = if off ≤ i ∧ i < off + vs.length then vs[i - off]? else C[i]? := by
  induction vs with
  | nil => intro C off i _; rw [putA, if_neg (by simp only [List.length_nil]; omega)]
  | cons v vs ih =>
    intro C off i h
    simp only [List.length_cons] at h
    rw [putA, ih _ _ _ (by simp; omega)]
    by_cases h1 : i = off
    · subst h1
      rw [if_neg (by omega), if_pos (by simp)]
      have hlt : i < C.size := by omega
      simp [hlt]
    · by_cases h2 : off + 1 ≤ i ∧ i < off + 1 + vs.length
      · rw [if_pos h2, if_pos (by simp; omega)]
        rw [show i - off = (i - (off + 1)) + 1 by omega, List.getElem?_cons_succ]
      · rw [if_neg h2, if_neg (by simp; omega), Array.getElem?_setIfInBounds_ne (Ne.symm h1)]

theorem setCell_upd (w : World) {b off : Nat} (v : Value) {C : Array Value} {t : TypeId} (h : w.heap[b]? = some (.cells C t (0, 0))) : w.setCell ⟨b, off, none⟩ v = upd w b (C.setIfInBounds off v) t := by
  unfold World.setCell upd
  congr 1
  apply Array.ext_getElem?
  intro i
  rw [Array.getElem?_modify]
  by_cases e : b = i
  · subst e
    rw [if_pos rfl, h]
    have := lt_heap h
    simp [this]
  · rw [if_neg e, Array.getElem?_setIfInBounds_ne e]

theorem upd_upd (w : World) (b : Nat) (C C' : Array Value) (t : TypeId) : upd (upd w b C t) b C' t = upd w b C' t := by
  unfold upd
  simp

theorem run_storeCells (t : TypeId) (b off : Nat) : ∀ (vs : List Value) (i : Nat) (w : World) (C : Array Value), w.heap[b]? = some (.cells C t (0, 0)) → off + i + vs.length ≤ C.size → (∀ v ∈ vs, v.oneCell' = true) →
    (storeCells ⟨b, off, none⟩ vs i).run P w = .ok () (upd w b (putA C (off + i) vs) t)
  | [], i, w, C, h, _, _ => by
    have : upd w b C t = w := by
      unfold upd
      have : w.heap.setIfInBounds b (.cells C t (0, 0)) = w.heap := by
        apply Array.ext_getElem?
        intro j
        by_cases e : b = j
        · subst e; have := lt_heap h; simp [this]; rw [Array.getElem?_eq_getElem this] at h; exact (Option.some.inj h).symm
        · rw [Array.getElem?_setIfInBounds_ne e]
      rw [this]
    simp [storeCells, putA, this]
  | v :: vs, i, w, C, h, hl, h1 => by
    simp only [List.length_cons] at hl
    have hv := h1 v (by simp)
    have hc : ∃ z, w.cell? ⟨b, off + i, none⟩ = some z := by
      have : off + i < C.size := by omega
      exact ⟨C[off + i], by simp [World.cell?, h, this]⟩
    obtain ⟨z, hz⟩ := hc
    have hf : w.frozen? ⟨b, off + i, none⟩ = false := by simp [World.frozen?, h]
    have ih := run_storeCells t b off vs (i + 1) (upd w b (C.setIfInBounds (off + i) v) t) (C.setIfInBounds (off + i) v) (upd_same w _ _ (lt_heap h)) (by simp; omega) (fun x hx => h1 x (by simp [hx]))
    rw [upd_upd] at ih
    simp only [storeCells, add_at, Sem.run_bind, run_store, hv, hz, hf]
    simp only [Bool.false_eq_true, if_false, if_true, Result.andThen]
    rw [setCell_upd w v h, ih, putA]
    rfl

theorem cell_at {w : World} {b : Nat} {C : Array Value} {t : TypeId} (hb : w.heap[b]? = some (.cells C t (0, 0))) (off : Nat) : w.cell? ⟨b, off, none⟩ = C[off]? := by
  simp [World.cell?, hb]

/-- An object's block has other cells; the object is another one, perhaps by another number. -/
theorem HoldsT.repl {X : Ctx} {T : Tab} {a : Act} {w : World} (h : HoldsT ρ X T σ a w) {k k' : Nat} {ob ob' : Ob} {p p' : Pl} {C0 C1 : Array Value} {t : TypeId} (hk : σ.objs k = some ob) (hforb : ∀ r c, σ.forb k r c → k' = k ∧ (c < p.s → C1[p.o + (r * p.s + c)]? = C0[p.o + (r * p.s + c)]?)) (hT : T k = some p)
    (hb : w.heap[p.b]? = some (.cells C0 t (0, 0))) (hsz : C1.size = C0.size) (hk' : (k' = k ∧ p' = p) ∨ k' = σ.next) (hp' : p'.b = p.b) (hs' : p'.s = ob'.s) (hmp : ob'.mp = false)
    (hC : ∀ (r : Nat) (row : List V), ob'.row r = some row → row.length = ob'.s ∧ (∀ q ∈ row, q.one = true) ∧ ∀ (c : Nat) (q : V), row[c]? = some q → ∃ v, C1[p'.o + (r * p'.s + c)]? = some v ∧ Rep ρ w (Live X.A T σ.objs) T q v) :
    HoldsT ρ X (T.put k' p') { σ with objs := Objs.put (Objs.put σ.objs k none) k' (some ob'), next := if k' = k then σ.next else σ.next + 1 } a (upd w p.b C1 t) ∧
    (∀ (q : V) (v : Value), Rep ρ w (Live X.A T σ.objs) T q v → Rep ρ (upd w p.b C1 t) (Live X.A (T.put k' p') (Objs.put (Objs.put σ.objs k none) k' (some ob'))) (T.put k' p') q v) ∧
    ∀ D : CellP, (∀ r c, D k r c → k' = k ∧ (c < p.s → C1[p.o + (r * p.s + c)]? = C0[p.o + (r * p.s + c)]?)) → StepT D T σ.objs w (T.put k' p') (Objs.put (Objs.put σ.objs k none) k' (some ob')) (upd w p.b C1 t) := by
  obtain ⟨htop1, htop2⟩ := h.top σ.next (Nat.le_refl _)
  have hkn : k < σ.next := by
    rcases Nat.lt_or_ge k σ.next with g | g
    · exact g
    · rw [(h.top k g).2] at hk; cases hk
  have hblt := lt_heap hb
  have hkk : k' = k ∨ k' = σ.next := hk'.imp (·.1) id
  have hT' : ∀ (j : Nat) (q : Pl), T j = some q → (T.put k' p') j = some q := fun j q hj => by
    unfold Tab.put
    by_cases e : j = k'
    · rw [if_pos e]
      rcases hk' with ⟨e1, e2⟩ | e1
      · subst e1 e2 e; rw [hT] at hj; exact hj
      · rw [e, e1, htop1] at hj; cases hj
    · rw [if_neg e]; exact hj
  have hliveK : LiveO T σ.objs p.b := ⟨k, ob, p, hk, hT, rfl⟩
  have hnA : ¬ X.A p.b := by
    obtain ⟨q, f1, f2, _⟩ := h.mem.obj k ob hk
    rw [hT] at f1
    cases f1
    exact f2
  have hliveO : ∀ b, LiveO (T.put k' p') (Objs.put (Objs.put σ.objs k none) k' (some ob')) b → LiveO T σ.objs b := by
    rintro b ⟨j, x, q, h1, h2, h3⟩
    unfold Objs.put at h1
    unfold Tab.put at h2
    by_cases e : j = k'
    · rw [if_pos e] at h2
      cases h2
      rw [← h3, hp']
      exact hliveK
    · rw [if_neg e] at h1 h2
      by_cases e2 : j = k
      · rw [if_pos e2] at h1; cases h1
      · rw [if_neg e2] at h1
        exact ⟨j, x, q, h1, h2, h3⟩
  have hlive : ∀ b, Live X.A (T.put k' p') (Objs.put (Objs.put σ.objs k none) k' (some ob')) b → Live X.A T σ.objs b := fun b h => h.imp id (hliveO b)
  have hrep : ∀ (q : V) (v : Value), Rep ρ w (Live X.A T σ.objs) T q v → Rep ρ (upd w p.b C1 t) (Live X.A (T.put k' p') (Objs.put (Objs.put σ.objs k none) k' (some ob'))) (T.put k' p') q v :=
    fun q v hq => hq.later (by rw [upd_size]; exact Nat.le_refl _) (fun b _ hn => upd_other w _ _ (fun e => hn (.inr (e ▸ hliveK)))) (fun b _ hn hl => hn (hlive b hl))
      (fun b C' t' fr' hb' => by
        by_cases e : b = p.b
        · subst e
          rw [hb] at hb'
          cases hb'
          exact ⟨C1, _, upd_same w _ _ hblt, hsz⟩
        · exact ⟨C', fr', by rw [upd_other w _ _ e]; exact hb', rfl⟩) hT'
  have hM : X.w0.heap.size ≤ p.b ∨ X.M p.b := by
    cases hx : X.T0 k with
    | none => exact h.fresh k p hx hT
    | some q =>
      have h1 := h.pre k q hx
      rw [hT] at h1
      cases h1
      have h2 := h.old k (by rw [hx]; simp) (by rw [hk]; simp)
      cases ho : X.objs0 k with
      | none => exact (h2 ho).elim
      | some z => exact .inr ⟨k, z, p, ho, hx, rfl⟩
  have hsame : ∀ D : CellP, (∀ r c, D k r c → k' = k ∧ (c < p.s → C1[p.o + (r * p.s + c)]? = C0[p.o + (r * p.s + c)]?)) → SameC T σ.objs D w (upd w p.b C1 t) := by
    intro D hD j r c q h1 h2 h3 h4
    by_cases e : q.b = p.b
    · cases hx : σ.objs j with
      | none => exact (h2 hx).elim
      | some x =>
        have ej := h.mem.inj j k x ob q p hx hk h3 hT e
        subst ej
        rw [hT] at h3
        cases h3
        rw [cell_at (upd_same w C1 t hblt), cell_at hb]
        exact (hD r c h1).2 h4
    · exact cell_of_heap (w := w) (upd_other w _ _ e)
  refine ⟨⟨fun j q hj => hT' j q (h.pre j q hj), ⟨fun b hb => by rw [upd_size]; exact h.mem.avoid b hb, fun j q hj => by
    rw [upd_size]
    unfold Tab.put at hj
    split at hj
    · cases hj; rw [hp']; exact hblt
    · exact h.mem.low j q hj, ?_, ?_, h.mem.glob.later (by rw [upd_size]; exact Nat.le_refl _) (fun b _ hn => upd_other w _ _ (fun e => hn (.inr (e ▸ hliveK)))) (fun b _ hn hl => hn (hlive b hl))⟩, ?_, fun t => hrep _ _ (h.tmp t), h.size, h.defers.map hrep, ?_, ?_, ?_, ?_, h.pc.trans' (fun _ _ _ h => h) h.stay h.pre (hsame X.forb (by rw [h.hforb]; exact hforb)), h.hforb, h.hks⟩, hrep, fun D hD => ⟨⟨by rw [upd_size]; exact Nat.le_refl _, ?_⟩, hsame D hD, hT', ?_, fun b _ hl => hliveO b hl, ?_⟩⟩
  · intro j x hj
    have hj' : Objs.put (Objs.put σ.objs k none) k' (some ob') j = some x := hj
    unfold Objs.put at hj'
    by_cases e : j = k'
    · rw [if_pos e] at hj'
      cases hj'
      refine ⟨p', by unfold Tab.put; rw [if_pos e], by rw [hp']; exact hnA, hs', fun _ => ⟨C1, t, by rw [hp']; exact upd_same w _ _ hblt, fun r row hr => ?_⟩, fun e => by rw [hmp] at e; cases e⟩
      obtain ⟨g1, g2, g3⟩ := hC r row hr
      refine ⟨g1, g2, fun c q hq => ?_⟩
      obtain ⟨v, h6, h7⟩ := g3 c q hq
      exact ⟨v, h6, hrep _ _ h7⟩
    · rw [if_neg e] at hj'
      by_cases e2 : j = k
      · rw [if_pos e2] at hj'; cases hj'
      · rw [if_neg e2] at hj'
        obtain ⟨q, h1, hA, h2⟩ := h.mem.obj j x hj'
        have hne : q.b ≠ p.b := fun e' => e2 (h.mem.inj j k x ob q p hj' hk h1 hT e')
        exact ⟨q, hT' _ _ h1, hA, h2.later (upd_other w _ _ hne) hrep⟩
  · intro i j x y q r hi hj hqi hqj hb2
    have hi' : Objs.put (Objs.put σ.objs k none) k' (some ob') i = some x := hi
    have hj' : Objs.put (Objs.put σ.objs k none) k' (some ob') j = some y := hj
    unfold Objs.put at hi' hj'
    unfold Tab.put at hqi hqj
    have other : ∀ (j : Nat) (y : Ob) (r : Pl), ¬ j = k' → (if j = k then none else σ.objs j) = some y → T j = some r → r.b ≠ p.b := by
      intro j y r hjk h1 h2 h3
      by_cases e2 : j = k
      · rw [if_pos e2] at h1; cases h1
      · rw [if_neg e2] at h1
        exact e2 (h.mem.inj j k y ob r p h1 hk h2 hT h3)
    by_cases e1 : i = k' <;> by_cases e2 : j = k'
    · omega
    · rw [if_pos e1] at hqi
      rw [if_neg e2] at hj' hqj
      cases hqi
      exact (other j y r e2 hj' hqj (by rw [← hb2, hp'])).elim
    · rw [if_pos e2] at hqj
      rw [if_neg e1] at hi' hqi
      cases hqj
      exact (other i x q e1 hi' hqi (by rw [hb2, hp'])).elim
    · rw [if_neg e1] at hi' hqi
      rw [if_neg e2] at hj' hqj
      by_cases e3 : i = k
      · rw [if_pos e3] at hi'; cases hi'
      · by_cases e4 : j = k
        · rw [if_pos e4] at hj'; cases hj'
        · rw [if_neg e3] at hi'
          rw [if_neg e4] at hj'
          exact h.mem.inj i j x y q r hi' hj' hqi hqj hb2
  · intro j hj
    have hj : (if k' = k then σ.next else σ.next + 1) ≤ j := hj
    have hj1 : σ.next ≤ j := by split at hj <;> omega
    obtain ⟨g1, g2⟩ := h.top j hj1
    have hne : ¬ j = k' := by
      rcases hkk with e | e
      · omega
      · intro e2
        rw [if_neg (by omega)] at hj
        omega
    show (Tab.put T k' p') j = none ∧ Objs.put (Objs.put σ.objs k none) k' (some ob') j = none
    unfold Tab.put Objs.put
    rw [if_neg hne, if_neg hne, if_neg (by omega)]
    exact ⟨g1, g2⟩
  · have hk2 := h.keep
    refine ⟨hk2.os, hk2.tape, hk2.output, by rw [upd_size]; exact hk2.size, fun b1 hb1 hn => ?_, fun b1 C2 t2 fr2 hb1 => ?_⟩
    · rw [upd_other w _ _ (fun e => by
        rw [e] at hb1 hn
        rcases hM with g | g
        · omega
        · exact hn g)]
      exact hk2.block b1 hb1 hn
    · obtain ⟨C3, fr3, h1, h2⟩ := hk2.shape b1 C2 t2 fr2 hb1
      by_cases e : b1 = p.b
      · subst e
        rw [hb] at h1
        cases h1
        exact ⟨C1, _, upd_same w _ _ hblt, hsz.trans h2⟩
      · exact ⟨C3, fr3, by rw [upd_other w _ _ e]; exact h1, h2⟩
  · intro j q hj hq
    unfold Tab.put at hq
    by_cases e : j = k'
    · rw [if_pos e] at hq
      cases hq
      rw [hp']
      exact hM
    · rw [if_neg e] at hq
      exact h.fresh j q hj hq
  · intro j h1 h2
    have h2' : Objs.put (Objs.put σ.objs k none) k' (some ob') j ≠ none := h2
    unfold Objs.put at h2'
    by_cases e : j = k'
    · rcases hkk with e1 | e1
      · exact h.old j h1 (by rw [e, e1, hk]; simp)
      · exfalso
        cases hx : X.T0 j with
        | none => exact h1 hx
        | some q =>
          have := h.pre j q hx
          rw [e, e1, htop1] at this
          cases this
    · rw [if_neg e] at h2'
      by_cases e2 : j = k
      · rw [if_pos e2] at h2'; exact (h2' rfl).elim
      · rw [if_neg e2] at h2'
        exact h.old j h1 h2'
  · intro j r c h1 h2
    show Objs.put (Objs.put σ.objs k none) k' (some ob') j ≠ none
    unfold Objs.put
    by_cases e : j = k'
    · rw [if_pos e]; simp
    · rw [if_neg e, if_neg (fun e2 => by subst e2; exact e (hforb r c (by rw [← h.hforb]; exact h1)).1.symm)]
      exact h.stay j r c h1 h2
  · intro b hb1 hn
    exact upd_other w _ _ (fun e => hn (by rw [e]; exact ⟨k, ob, p, hk, hT, rfl⟩))
  · intro j r c hj hne
    show Objs.put (Objs.put σ.objs k none) k' (some ob') j ≠ none
    unfold Objs.put
    by_cases e : j = k'
    · rw [if_pos e]; simp
    · rw [if_neg e, if_neg (fun e2 => by subst e2; exact e (hD r c hj).1.symm)]
      exact hne
  · intro j q hj hq
    unfold Tab.put at hj
    by_cases e : j = k'
    · rw [if_pos e] at hj
      cases hj
      exact ⟨k, p, hT, hp'.symm⟩
    · rw [if_neg e] at hj
      exact ⟨j, q, hj, rfl⟩

/-! ### Stores -/

/-- Cells laid over a row from a place on. -/
def overL : List V → List V → List V
  | [], row => row
  | _ :: _, [] => []
  | q :: l, _ :: row => q :: overL l row

def splice : Nat → List V → List V → List V
  | 0, row, l => overL l row
  | _ + 1, [], _ => []
  | c + 1, x :: row, l => x :: splice c row l

theorem overL_length : ∀ (l row : List V), (overL l row).length = row.length
  | [], row => rfl
  | _ :: _, [] => rfl
  | q :: l, x :: row => by simp [overL, overL_length l row]

theorem splice_length : ∀ (c : Nat) (row l : List V), (splice c row l).length = row.length
  | 0, row, l => overL_length l row
  | c + 1, [], l => rfl
  | c + 1, x :: row, l => by simp [splice, splice_length c row l]

theorem overL_get : ∀ (l row : List V) (i : Nat), l.length ≤ row.length → (overL l row)[i]? = if i < l.length then l[i]? else row[i]?
  | [], row, i, _ => by simp [overL]
  | _ :: _, [], i, h => by simp at h
  | q :: l, x :: row, 0, h => by simp [overL]
  | q :: l, x :: row, i + 1, h => by
    simp only [overL, List.getElem?_cons_succ, List.length_cons]
    rw [overL_get l row i (by simpa using h)]
    by_cases g : i < l.length
    · rw [if_pos g, if_pos (by omega)]
    · rw [if_neg g, if_neg (by omega)]

theorem splice_get : ∀ (c : Nat) (row l : List V) (i : Nat), c + l.length ≤ row.length → (splice c row l)[i]? = if c ≤ i ∧ i < c + l.length then l[i - c]? else row[i]?
  | 0, row, l, i, h => by
    rw [splice, overL_get l row i (by omega)]
    simp
  | c + 1, [], l, i, h => by simp at h
  | c + 1, x :: row, l, 0, h => by simp [splice]
  | c + 1, x :: row, l, i + 1, h => by
    simp only [splice, List.getElem?_cons_succ]
    rw [splice_get c row l i (by simp at h; omega)]
    by_cases g : c ≤ i ∧ i < c + l.length
    · rw [if_pos g, if_pos (by omega), show i + 1 - (c + 1) = i - c by omega]
    · rw [if_neg g, if_neg (by omega)]

def setRow (ob : Ob) (r : Nat) (row : List V) : Ob := ⟨ob.s, fun j => if j = r then some row else ob.row j, ob.mp⟩

theorem flat_lt {s r c r' c' : Nat} (hc : c < s) (hc' : c' < s) (h : r ≠ r') : r * s + c < r' * s ∨ r' * s + s ≤ r * s + c := by
  rcases Nat.lt_or_ge r r' with g | g
  · left
    have : (r + 1) * s ≤ r' * s := Nat.mul_le_mul_right _ g
    rw [Nat.add_mul, Nat.one_mul] at this
    omega
  · right
    have : (r' + 1) * s ≤ r * s := Nat.mul_le_mul_right _ (by omega)
    rw [Nat.add_mul, Nat.one_mul] at this
    omega

/-- A value is stored. -/
theorem qo_store {C : CellP} {o : Oper} {t : TypeId} {ti : TI} {x y : Operand} {k r c : Nat} {ob : Ob} {row l : List V} {N : St → Prop} (ho : o.op = .store t x y) (hdst : o.dst = none)
    (hx : evalV σ x = .ptr k r c) (hl : cellsV (evalV σ y) = l) (hone : l.all V.one = true) (ht : TyOK P t ti) (hs : ti.size = l.length) (h0 : 0 < l.length) (hk : σ.objs k = some ob) (hmp : ob.mp = false) (hrow : ob.row r = some row)
    (hc : c + l.length ≤ row.length) (hforb : ∀ j, j < l.length → ¬ σ.forb k r (c + j)) (hC : ∀ j, j < l.length → ¬ C k r (c + j)) (h : N { σ with objs := Objs.put σ.objs k (some (setRow ob r (splice c row l))) }) : QO ρ P C o σ N K := by
  intro X T a w hh
  obtain ⟨p, hT, e1⟩ := rep_ptr (ev_rep hh hx)
  obtain ⟨p', hT', _, hs', hcs, _⟩ := hh.mem.obj k ob hk
  obtain ⟨C0, t0, hb, hrows⟩ := hcs hmp
  rw [hT] at hT'
  cases hT'
  obtain ⟨h1, h2⟩ := cellsV_rep (eval_rep hh y) (by rw [hl]; exact hone)
  rw [hl] at h1 h2
  obtain ⟨g1, g2, g3⟩ := hrows r row hrow
  have hvl : (a.eval y).cells.toList.length = l.length := by simpa using h1
  have hin : p.o + (r * p.s + c) + l.length ≤ C0.size := by
    obtain ⟨v, hv, _⟩ := g3 (c + l.length - 1) row[c + l.length - 1] (List.getElem?_eq_getElem (by omega))
    rcases Nat.lt_or_ge (p.o + (r * p.s + (c + l.length - 1))) C0.size with g | g
    · omega
    · rw [Array.getElem?_eq_none g] at hv; cases hv
  have hv1 : ∀ v ∈ (a.eval y).cells.toList, v.oneCell' = true := by
    intro v hv
    obtain ⟨i, hi⟩ := List.mem_iff_getElem?.mp hv
    have hil := lt_of_get hi
    have hq : l[i]? = some l[i] := List.getElem?_eq_getElem (by omega)
    obtain ⟨x, f1, f2⟩ := h2 i _ hq
    have : (a.eval y).cells[i]? = some v := by simpa using hi
    rw [f1] at this
    cases this
    exact one_of_rep f2 (List.all_eq_true.mp hone _ (List.mem_of_getElem? hq))
  have hrun := run_storeCells (P := P) t0 p.b (p.o + (r * p.s + c)) (a.eval y).cells.toList 0 w C0 hb (by omega) hv1
  rw [Nat.add_zero] at hrun
  have hget := putA_get (a.eval y).cells.toList C0 (p.o + (r * p.s + c))
  rw [hvl] at hget
  have okc : ∀ D : CellP, (∀ j, j < l.length → ¬ D k r (c + j)) → ∀ r' c', D k r' c' → k = k ∧ (c' < p.s → (putA C0 (p.o + (r * p.s + c)) (a.eval y).cells.toList)[p.o + (r' * p.s + c')]? = C0[p.o + (r' * p.s + c')]?) := by
    intro D hD r' c' h1
    refine ⟨rfl, fun hlt => ?_⟩
    rw [hget _ hin, if_neg]
    rintro ⟨q1, q2⟩
    by_cases er : r' = r
    · subst er
      refine hD (c' - c) (by omega) ?_
      rw [show c + (c' - c) = c' by omega]
      exact h1
    · have f1 := flat_lt (s := p.s) (c := c') (c' := c) hlt (by omega) er
      have f2 := flat_lt (s := p.s) (c := c') (c' := c + l.length - 1) hlt (by omega) er
      omega
  obtain ⟨k1, k2, k3⟩ := hh.repl (ob' := setRow ob r (splice c row l)) (C1 := putA C0 (p.o + (r * p.s + c)) (a.eval y).cells.toList) hk (okc _ hforb) hT hb (putA_size _ _ _) (.inl ⟨rfl, rfl⟩) rfl hs' hmp (by
    intro r' row' hr'
    have hr2 : (if r' = r then some (splice c row l) else ob.row r') = some row' := hr'
    by_cases er : r' = r
    · subst er
      rw [if_pos rfl] at hr2
      cases hr2
      refine ⟨by rw [splice_length]; exact g1, fun q hq => ?_, fun c' q hq => ?_⟩
      · obtain ⟨i, hi⟩ := List.mem_iff_getElem?.mp hq
        rw [splice_get c row l i hc] at hi
        split at hi
        · exact List.all_eq_true.mp hone _ (List.mem_of_getElem? hi)
        · exact g2 q (List.mem_of_getElem? hi)
      · rw [splice_get c row l c' hc] at hq
        split at hq
        · rename_i hin2
          obtain ⟨v, f1, f2⟩ := h2 (c' - c) q hq
          refine ⟨v, ?_, f2⟩
          rw [hget _ hin, if_pos (by omega), show p.o + (r' * p.s + c') - (p.o + (r' * p.s + c)) = c' - c by omega]
          simpa using f1
        · rename_i hin2
          obtain ⟨v, f1, f2⟩ := g3 c' q hq
          exact ⟨v, by rw [hget _ hin, if_neg (by omega)]; exact f1, f2⟩
    · rw [if_neg er] at hr2
      obtain ⟨f1, f2, f3⟩ := hrows r' row' hr2
      refine ⟨f1, f2, fun c' q hq => ?_⟩
      obtain ⟨v, f4, f5⟩ := f3 c' q hq
      have hc' := lt_of_get hq
      refine ⟨v, ?_, f5⟩
      have := flat_lt (s := p.s) (c := c') (c' := c) (by omega) (by omega) er
      rw [hget _ hin, if_neg (by omega)]
      exact f4)
  have hobj : Objs.put (Objs.put σ.objs k none) k (some (setRow ob r (splice c row l))) = Objs.put σ.objs k (some (setRow ob r (splice c row l))) := by
    funext j
    unfold Objs.put
    by_cases e : j = k
    · rw [if_pos e, if_pos e]
    · rw [if_neg e, if_neg e, if_neg e]
  have hk3 := k3 C (okc _ hC)
  rw [hobj] at k1 hk3
  rw [if_pos rfl] at k1
  unfold Oper.wp
  have hx2 : (execOp a.eval o).run P w = .ok .skip (upd w p.b (putA C0 (p.o + (r * p.s + c)) (a.eval y).cells.toList) t0) := by
    have : (a.eval y).cells.size = l.length := h1
    simp [execOp, ho, e1, Instr.storeAt, Instr.sureAddr, storeVar, this, ht.sizeOf, hs, hrun]
  rw [hx2]
  refine ⟨_, _, h, ?_, hk3⟩
  rw [hdst]
  exact k1

end Go.Proofs.YtibmbbogjkecoaaDoor.M

/- append. -/
namespace Go.Proofs.YtibmbbogjkecoaaDoor.M
open Go Go.RowKit
set_option linter.unusedSimpArgs false
set_option linter.unusedVariables false

variable {ρ : Nat → Value} {P : Program} {σ : St} {K : Ex → St → Prop}

/-- The bytes of a packed text, one a row. -/
def byteRows (len n : Nat) : List (List V) := (List.range len).map fun i => [.int .u8 (.ofNat (n / 256 ^ i % 256))]

theorem byteRows_get {len n i : Nat} (h : i < len) : (byteRows len n)[i]? = some [.int .u8 (.ofNat (n / 256 ^ i % 256))] := by
  unfold byteRows
  rw [List.getElem?_map, List.getElem?_range h]
  rfl
theorem byteRows_length (len n : Nat) : (byteRows len n).length = len := by simp [byteRows]

/-- The rows of a slice: how many, and each one. -/
def srcOf (σ : St) (s : Nat) : V → Option (Nat × (Nat → Option (List V)))
  | .ro s' rows => match Nat.beq s' s with
    | true => some (rows.length, fun r => rows[r]?)
    | false => none
  | .sc (.slice none 0 _) => some (0, fun _ => none)
  | .ps len n => match Nat.beq 1 s with
    | true => some (len, fun r => (byteRows len n)[r]?)
    | false => none
  | .sl k off len _ => match σ.objs k with
    | some ob => match Nat.beq ob.s s && !ob.mp with
      | true => some (len, fun r => ob.row (off + r))
      | false => none
    | none => none
  | _ => none

/-- Rows as cells. -/
theorem flat_fn {s n : Nat} {w : World} {b o : Nat} {f : Nat → Option (List V)} {R : V → Value → Prop} (hs : 0 < s) (hall : ∀ r, r < n → ∃ row, f r = some row ∧ row.length = s ∧ ∀ q ∈ row, q.one = true)
    (hc : ∀ (r : Nat) (row : List V), r < n → f r = some row → ∀ (c : Nat) (q : V), row[c]? = some q → ∃ v, w.cell? ⟨b, o + (r * s + c), none⟩ = some v ∧ R q v) :
    ∃ news : List Value, news.length = n * s ∧ (∀ (j : Nat) (v : Value), news[j]? = some v → w.cell? ((⟨b, o, none⟩ : Addr).add j) = some v) ∧
      (∀ (r : Nat) (row : List V), r < n → f r = some row → ∀ (c : Nat) (q : V), row[c]? = some q → ∃ v, news[r * s + c]? = some v ∧ R q v) ∧
      ∀ v ∈ news, ∃ (q : V), q.one = true ∧ R q v := by
  have key : ∀ j, j < n * s → ∃ v, w.cell? ⟨b, o + j, none⟩ = some v ∧ (∃ q : V, q.one = true ∧ R q v) ∧ ∀ (row : List V) (q : V), f (j / s) = some row → row[j % s]? = some q → R q v := by
    intro j hj
    have h1 : j / s < n := (Nat.div_lt_iff_lt_mul hs).mpr hj
    obtain ⟨row, h2, h3, h4⟩ := hall _ h1
    have h5 : j % s < row.length := by rw [h3]; exact Nat.mod_lt _ hs
    obtain ⟨v, h6, h7⟩ := hc _ row h1 h2 (j % s) row[j % s] (List.getElem?_eq_getElem h5)
    refine ⟨v, ?_, ⟨_, h4 _ (List.getElem_mem h5), h7⟩, fun row' q hr hq => ?_⟩
    · rw [← h6]; congr 3; rw [Nat.mul_comm]; exact (Nat.div_add_mod j s).symm
    · rw [h2] at hr
      cases hr
      rw [List.getElem?_eq_getElem h5] at hq
      cases hq
      exact h7
  let g : Nat → Value := fun j => if h : j < n * s then (key j h).choose else undef
  have hg : ∀ j (h : j < n * s), g j = (key j h).choose := fun j h => by simp only [g]; rw [dif_pos h]
  refine ⟨(List.range (n * s)).map g, by simp, fun j v hv => ?_, fun r row hr hrow c q hq => ?_, fun v hv => ?_⟩
  · have hj : j < n * s := by have := lt_of_get hv; simpa using this
    rw [List.getElem?_map, List.getElem?_range hj] at hv
    simp only [Option.map_some, Option.some.injEq] at hv
    subst hv
    rw [hg j hj, add_at]
    exact (key j hj).choose_spec.1
  · obtain ⟨row', h2, h3, h4⟩ := hall r hr
    rw [hrow] at h2
    cases h2
    have hcl := lt_of_get hq
    have hj : r * s + c < n * s := by
      have : (r + 1) * s ≤ n * s := Nat.mul_le_mul_right _ hr
      rw [Nat.add_mul, Nat.one_mul] at this
      omega
    refine ⟨g (r * s + c), by rw [List.getElem?_map, List.getElem?_range hj]; rfl, ?_⟩
    rw [hg _ hj]
    have e1 : (r * s + c) / s = r := by rw [Nat.mul_comm, Nat.mul_add_div hs, Nat.div_eq_of_lt (by omega)]; rfl
    have e2 : (r * s + c) % s = c := by rw [Nat.mul_comm, Nat.mul_add_mod]; exact Nat.mod_eq_of_lt (by omega)
    exact (key _ hj).choose_spec.2.2 row q (by rw [e1]; exact hrow) (by rw [e2]; exact hq)
  · rw [List.mem_map] at hv
    obtain ⟨j, hj, rfl⟩ := hv
    have hj := List.mem_range.mp hj
    rw [hg j hj]
    exact (key j hj).choose_spec.2.1

/-- What a slice's, a text's cells hold. -/
theorem src_cells (P : Program) {X : Ctx} {T : Tab} {a : Act} {w : World} (h : HoldsT ρ X T σ a w) {x : Value} {q : V} {s m : Nat} {f : Nat → Option (List V)} (hx : Rep ρ w (Live X.A T σ.objs) T q x) (hr : srcOf σ s q = some (m, f)) (hs : 0 < s)
    (hf : ∀ r, r < m → (f r).isSome = true) :
    ∃ news : List Value, (∀ w1, (Builtin.lenOf x).run P w1 = .ok m w1) ∧ news.length = m * s ∧
      (∀ (n : Nat) (w1 : World), n ≤ m → w1.heap = w.heap → (Builtin.firstCells s n x).run P w1 = .ok (news.take (n * s)).toArray w1) ∧
      (∀ (r : Nat) (row : List V), r < m → f r = some row → row.length = s ∧ (∀ q ∈ row, q.one = true) ∧ ∀ (c : Nat) (q : V), row[c]? = some q → ∃ v, news[r * s + c]? = some v ∧ Rep ρ w (Live X.A T σ.objs) T q v) ∧
      (∀ v ∈ news, v.oneCell' = true) := by
  have nil : ∀ c, x = .slice none 0 c → m = 0 → _ := fun c e1 e2 => (show ∃ news : List Value, (∀ w1, (Builtin.lenOf x).run P w1 = .ok m w1) ∧ news.length = m * s ∧
      (∀ (n : Nat) (w1 : World), n ≤ m → w1.heap = w.heap → (Builtin.firstCells s n x).run P w1 = .ok (news.take (n * s)).toArray w1) ∧
      (∀ (r : Nat) (row : List V), r < m → f r = some row → row.length = s ∧ (∀ q ∈ row, q.one = true) ∧ ∀ (c : Nat) (q : V), row[c]? = some q → ∃ v, news[r * s + c]? = some v ∧ Rep ρ w (Live X.A T σ.objs) T q v) ∧
      (∀ v ∈ news, v.oneCell' = true) from ⟨[], fun w1 => by rw [e1, e2]; simp [Builtin.lenOf], by rw [e2]; simp, fun n w1 _ _ => by rw [e1]; simp [Builtin.firstCells], fun r row hlt => by omega, fun v hv => by cases hv⟩)
  have some_ : ∀ (b o c : Nat) (news : List Value), x = .slice (some ⟨b, o, none⟩) m c → news.length = m * s → (∀ (j : Nat) (v : Value), news[j]? = some v → w.cell? ((⟨b, o, none⟩ : Addr).add j) = some v) →
      (∀ (n : Nat) (w1 : World), n ≤ m → w1.heap = w.heap → (Builtin.firstCells s n x).run P w1 = .ok (news.take (n * s)).toArray w1) := by
    intro b o c news e1 hl hc n w1 hn hw
    have hns : n * s ≤ m * s := Nat.mul_le_mul_right _ hn
    rw [e1]
    refine run_firstCells_some (P := P) w1 s n ⟨b, o, none⟩ m c (news.take (n * s)) (by rw [List.length_take]; omega) fun j v hj => ?_
    have hjl := lt_of_get hj
    rw [List.length_take] at hjl
    rw [List.getElem?_take_of_lt (by omega)] at hj
    rw [cell_of_heap (w := w) (by rw [hw])]
    exact hc j v hj
  cases q with
  | ro s' rows' =>
    simp only [srcOf] at hr
    split at hr
    · rename_i he
      simp only [Option.some.injEq, Prod.mk.injEq] at hr
      obtain ⟨rfl, rfl⟩ := hr
      have := Nat.eq_of_beq_eq_true he
      subst this
      rcases rep_ro hx with ⟨e1, e2⟩ | ⟨b, o, cap, val, e1, h1, h2, h3, h4, h5, h6⟩
      · subst e2; exact nil 0 e1 rfl
      · obtain ⟨news, g1, g2, g3, g4⟩ := flat_fn (w := w) (b := b) (o := o) (n := rows'.length) (f := fun r => rows'[r]?) (R := Rep ρ w (Live X.A T σ.objs) T) hs
          (fun r hr => ⟨rows'[r], List.getElem?_eq_getElem hr, h4 _ (List.getElem_mem hr)⟩)
          (fun r row _ hrow c q hq => ⟨val r c, h5 r row hrow c q hq, .pure (h6 r row hrow c q hq)⟩)
        exact ⟨news, fun w1 => by rw [e1]; simp [Builtin.lenOf], g1, some_ b o cap news e1 g1 g2, fun r row hr hrow => ⟨(h4 row (List.mem_of_getElem? hrow)).1, (h4 row (List.mem_of_getElem? hrow)).2, g3 r row hr hrow⟩, fun v hv => by obtain ⟨q, k1, k2⟩ := g4 v hv; exact one_of_rep k2 k1⟩
    · cases hr
  | sl k off len full =>
    simp only [srcOf] at hr
    split at hr
    · rename_i ob hob
      split at hr
      · rename_i he
        simp only [Option.some.injEq, Prod.mk.injEq] at hr
        obtain ⟨rfl, rfl⟩ := hr
        rw [Bool.and_eq_true] at he
        have hmp : ob.mp = false := by have := he.2; cases hx : ob.mp with | true => rw [hx] at this; cases this | false => rfl
        have := Nat.eq_of_beq_eq_true he.1
        subst this
        obtain ⟨p, at_, cap, hT, ha, hc, _, _, e1⟩ := rep_sl hx
        obtain ⟨p', hT', _, hs', hcs, _⟩ := h.mem.obj k ob hob
        obtain ⟨C, t, hb, hrows⟩ := hcs hmp
        rw [hT] at hT'
        cases hT'
        have hrow' : ∀ (r : Nat) (row : List V), r < len → ob.row (off + r) = some row → row.length = ob.s ∧ (∀ q ∈ row, q.one = true) ∧ ∀ (c : Nat) (q : V), row[c]? = some q → ∃ v, w.cell? ⟨p.b, at_ + (r * ob.s + c), none⟩ = some v ∧ Rep ρ w (Live X.A T σ.objs) T q v := by
          intro r row hr hrow
          obtain ⟨k1, k2, k3⟩ := hrows _ row hrow
          refine ⟨k1, k2, fun c q hq => ?_⟩
          obtain ⟨v, k4, k5⟩ := k3 c q hq
          refine ⟨v, ?_, k5⟩
          have e3 : at_ = p.o + off * p.s := by omega
          rw [e3, ← hs', show p.o + off * p.s + (r * p.s + c) = p.o + ((off + r) * p.s + c) by rw [Nat.add_mul]; omega]
          simp [World.cell?, hb, k4]
        obtain ⟨news, g1, g2, g3, g4⟩ := flat_fn (w := w) (b := p.b) (o := at_) (n := len) (f := fun r => ob.row (off + r)) (R := Rep ρ w (Live X.A T σ.objs) T) hs
          (fun r hr => by
            obtain ⟨row, hrow⟩ := Option.isSome_iff_exists.mp (hf r hr)
            exact ⟨row, hrow, (hrow' r row hr hrow).1, (hrow' r row hr hrow).2.1⟩)
          (fun r row hr hrow c q hq => (hrow' r row hr hrow).2.2 c q hq)
        exact ⟨news, fun w1 => by rw [e1]; simp [Builtin.lenOf], g1, some_ p.b at_ cap news e1 g1 g2, fun r row hr hrow => ⟨(hrow' r row hr hrow).1, (hrow' r row hr hrow).2.1, g3 r row hr hrow⟩, fun v hv => by obtain ⟨q, k1, k2⟩ := g4 v hv; exact one_of_rep k2 k1⟩
      · cases hr
    · cases hr
  | ps len n =>
    simp only [srcOf] at hr
    split at hr
    · rename_i he
      have := Nat.eq_of_beq_eq_true he
      subst this
      simp only [Option.some.injEq, Prod.mk.injEq] at hr
      obtain ⟨rfl, rfl⟩ := hr
      obtain ⟨e1, hn⟩ := rep_ps hx
      refine ⟨(bytesL len n).map fun b => .int .u8 b.toNat, fun w1 => by rw [e1]; simp [Builtin.lenOf, unpack_size], by rw [List.length_map, bytesL_length, Nat.mul_one], fun k w1 hk _ => ?_, fun r row hr hrow => ?_, fun v hv => by obtain ⟨b, _, rfl⟩ := List.mem_map.mp hv; rfl⟩
      · rw [e1]
        have : ((unpack len n).extract 0 k).data = ((bytesL len n).take k).toArray := by
          rw [ByteArray.data_extract]
          apply Array.toList_inj.mp
          rw [Array.toList_extract]
          show List.extract (bytesL len n) 0 k = (bytesL len n).take k
          rw [List.extract_eq_take_drop]
          simp
        show (Sem.pure (((unpack len n).extract 0 k).data.map fun b => Value.int .u8 b.toNat)).run P w1 = _
        rw [this, Nat.mul_one, ← List.map_take]
        simp
      · have hrow : (byteRows len n)[r]? = some row := hrow
        rw [byteRows_get hr] at hrow
        cases hrow
        refine ⟨rfl, fun q hq => by simp at hq; subst hq; rfl, fun c q hq => ?_⟩
        have hc0 : c = 0 := by have := lt_of_get hq; simp at this; omega
        subst hc0
        simp at hq
        subst hq
        refine ⟨.int .u8 (n / 256 ^ r % 256 : Nat), ?_, .pure (.int _ _)⟩
        rw [Nat.mul_one, Nat.add_zero, List.getElem?_map, bytesL_get len n r hr]
        simp
    · cases hr
  | sc v =>
    have := rep_sc hx
    subst this
    cases x with
    | slice ad n c =>
      cases ad with
      | none =>
        cases n with
        | zero =>
          simp only [srcOf, Option.some.injEq, Prod.mk.injEq] at hr
          exact nil c rfl hr.1.symm
        | succ n => simp [srcOf] at hr
      | some ad => simp [srcOf] at hr
    | _ => simp [srcOf] at hr
  | _ => simp [srcOf] at hr

/-- What may be appended. -/
def TxOK (P : Program) (tx : TypeId) : Prop := ∃ D, P.underlying tx = some D ∧ ((∃ e', D = .slice e') ∨ D = .string)

/-! ### What the machine does -/

theorem run_app_nil (w : World) (t tx ty e : TypeId) (i : TypeInfo) (z : Value) (ht : P.underlying t = some (.slice e)) (hx : TxOK P tx) (hi : P.info? e = some i) (hz : i.zero = some z)
    (x : Value) (n : Nat) (news : List Value) (hlen : ∀ w1, (Builtin.lenOf x).run P w1 = .ok n w1) (hl : news.length = n * i.size) (hnews : ∀ w1 : World, w1.heap = w.heap → (Builtin.firstCells i.size n x).run P w1 = .ok news.toArray w1)
    (h0 : 0 < n) (h63 : n ≤ 9223372036854775807) (h48 : n * i.bytes ≤ 281474976710656) :
    ∃ C, (Builtin.append_ #[t, tx] ty #[.slice none 0 0, x]).run P w =
      .ok (.slice (some ⟨w.heap.size, 0, none⟩) n (grownCap w n 0 e)) (more w.drew (.cells (news.toArray ++ C) e (0, 0))) ∧ C.size = (grownCap w n 0 e - n) * z.cells.size := by
  have hn : n ≠ 0 := by omega
  have h63' : ¬ (9223372036854775807 < (n : Int)) := by omega
  have h48' : ¬ (281474976710656 < Builtin.nextslicecap n 0 * i.bytes) := by rw [nextslicecap_zero h0]; omega
  have hf := hnews w.drew rfl
  obtain ⟨D, hx, hD⟩ := hx
  refine ⟨Builtin.zeroCells z.cells (grownCap w n 0 e - n), ?_, size_zeroCells _ _⟩
  rcases hD with ⟨e', rfl⟩ | rfl
  all_goals
    simp [Builtin.append_, run_underlying ht, run_underlying hx, sizeOf, typeInfo, zeroValue, hi, hz, hlen, hn, h63', h48', Question.forced, run_firstCells_none, hf, newRow, grownCap, more]
    rfl

theorem run_app_grow (w : World) (t tx ty e : TypeId) (i : TypeInfo) (z : Value) (ht : P.underlying t = some (.slice e)) (hx : TxOK P tx) (hi : P.info? e = some i) (hz : i.zero = some z)
    (b : Addr) (sLen sCap : Nat) (olds : List Value) (hlo : olds.length = sLen * i.size) (holds : ∀ (j : Nat) (v : Value), olds[j]? = some v → w.cell? (b.add j) = some v)
    (x : Value) (n : Nat) (news : List Value) (hlen : ∀ w1, (Builtin.lenOf x).run P w1 = .ok n w1) (hl : news.length = n * i.size) (hnews : ∀ w1 : World, w1.heap = w.heap → (Builtin.firstCells i.size n x).run P w1 = .ok news.toArray w1)
    (hg : sCap < sLen + n) (h63 : sLen + n ≤ 9223372036854775807) (hfit : (sLen + n) * i.bytes ≤ 140737488355328) :
    ∃ C, (Builtin.append_ #[t, tx] ty #[.slice (some b) sLen sCap, x]).run P w =
      .ok (.slice (some ⟨w.heap.size, 0, none⟩) (sLen + n) (grownCap w (sLen + n) sCap e))
        (more w.drew (.cells ((olds ++ news).toArray ++ C) e (0, 0))) ∧ C.size = (grownCap w (sLen + n) sCap e - (sLen + n)) * z.cells.size := by
  have hn : ¬ (sLen + n ≤ sCap) := by omega
  have h63' : ¬ (9223372036854775807 < ((sLen : Int) + (n : Int))) := by omega
  have h48' : ¬ (281474976710656 < Builtin.nextslicecap (sLen + n) sCap * i.bytes) := by have := growslice_fits hg hfit; omega
  have hf := hnews w.drew rfl
  obtain ⟨D, hx, hD⟩ := hx
  have hfo := run_firstCells_some (P := P) w.drew i.size sLen b sLen sCap olds hlo (by simpa using holds)
  refine ⟨Builtin.zeroCells z.cells (grownCap w (sLen + n) sCap e - (sLen + n)), ?_, size_zeroCells _ _⟩
  rcases hD with ⟨e', rfl⟩ | rfl
  all_goals
    simp [Builtin.append_, run_underlying ht, run_underlying hx, sizeOf, typeInfo, zeroValue, hi, hz, hlen, hn, h63', h48', Question.forced, hf, hfo, newRow, grownCap, more]
    generalize Builtin.zeroCells z.cells _ = Z
    have e : olds.toArray ++ (news.toArray ++ Z) = (olds ++ news).toArray ++ Z := by apply Array.ext'; simp
    rw [e]
    rfl

theorem run_app_none (w : World) (t tx ty e : TypeId) (i : TypeInfo) (ht : P.underlying t = some (.slice e)) (hx : TxOK P tx) (hi : P.info? e = some i)
    (b : Option Addr) (sLen sCap : Nat) (hc : sLen ≤ sCap) (x : Value) (hlen : ∀ w1, (Builtin.lenOf x).run P w1 = .ok 0 w1) (hf : (Builtin.firstCells i.size 0 x).run P w = .ok #[] w) :
    (Builtin.append_ #[t, tx] ty #[.slice b sLen sCap, x]).run P w = .ok (.slice b sLen sCap) w := by
  obtain ⟨D, hx, hD⟩ := hx
  rcases hD with ⟨e', rfl⟩ | rfl <;> cases b <;> simp [Builtin.append_, run_underlying ht, run_underlying hx, sizeOf, typeInfo, hi, hlen, hc, hf, storeCells]

theorem run_app_room (w : World) (t tx ty e t' : TypeId) (i : TypeInfo) (ht : P.underlying t = some (.slice e)) (hx : TxOK P tx) (hi : P.info? e = some i)
    (g at_ sLen sCap : Nat) (cur : Array Value) (hg : w.heap[g]? = some (.cells cur t' (0, 0)))
    (x : Value) (m : Nat) (news : List Value) (hlen : ∀ w1, (Builtin.lenOf x).run P w1 = .ok m w1) (hl : news.length = m * i.size) (hnews : (Builtin.firstCells i.size m x).run P w = .ok news.toArray w) (h1 : ∀ u ∈ news, u.oneCell' = true)
    (hroom : sLen + m ≤ sCap) (hfit : at_ + sLen * i.size + news.length ≤ cur.size) :
    (Builtin.append_ #[t, tx] ty #[.slice (some ⟨g, at_, none⟩) sLen sCap, x]).run P w =
      .ok (.slice (some ⟨g, at_, none⟩) (sLen + m) sCap) (upd w g (putA cur (at_ + sLen * i.size) news) t') := by
  obtain ⟨D, hx, hD⟩ := hx
  have hst := run_storeCells (P := P) t' g (at_ + sLen * i.size) news 0 w cur hg (by simpa using hfit) h1
  simp only [Nat.add_zero] at hst
  rcases hD with ⟨e', rfl⟩ | rfl <;> simp [Builtin.append_, run_underlying ht, run_underlying hx, sizeOf, typeInfo, hi, hlen, hroom, hnews, add_at, hst]

theorem grown_ge (w : World) (need old : Nat) (e : TypeId) : need ≤ grownCap w need old e := by
  show need ≤ need + _
  exact Nat.le_add_right _ _

theorem drew_holds {X : Ctx} {T : Tab} {a : Act} {w : World} (h : HoldsT ρ X T σ a w) : HoldsT ρ X T σ a w.drew := h.congr rfl rfl rfl rfl

theorem rep_drew {w : World} {L : Nat → Prop} {T : Tab} {q : V} {v : Value} (h : Rep ρ w L T q v) : Rep ρ w.drew L T q v :=
  h.later (Nat.le_refl _) (fun _ _ _ => rfl) (fun _ _ h => h) (fun _ C _ fr hc => ⟨C, fr, hc, rfl⟩) (fun _ _ h => h)

/-- The call of append. -/
def isAppend (o : Oper) (s x : Operand) (t tx : TypeId) : Prop := o.op = .call { callee := .builtin .append, args := #[s, x], argTypes := #[t, tx] }

theorem run_of_append {o : Oper} {s x : Operand} {t tx : TypeId} (ho : isAppend o s x t tx) {a : Act} {w w' : World} {v : Value}
    (h : (Builtin.append_ #[t, tx] o.type #[a.eval s, a.eval x]).run P w = .ok v w') : (execOp a.eval o).run P w = .ok (.value v) w' := by
  have ho : o.op = _ := ho
  simp [execOp, ho, resolve, invoke, builtin, h]

/-- An element's type. -/
structure ElOK (P : Program) (t : TypeId) (e es eb : Nat) : Prop where
  und : P.underlying t = some (.slice e)
  info : ∃ (i : TypeInfo) (z : Value), P.info? e = some i ∧ i.size = es ∧ i.bytes = eb ∧ i.zero = some z ∧ z.cells.size = es

theorem ElOK.of {t : TypeId} {ti te : TI} {e es eb : Nat} (ht : TyOK P t ti) (hs : ti.sh = .slice e es eb) (he : TyOK P e te) (hz : te.zero.length = es) : ElOK P t e es eb := by
  obtain ⟨hu, i, hi, h1, h2⟩ := slice_of ht hs
  have hz' := he.zero
  rw [hi] at hz'
  cases hzz : i.zero with
  | none => rw [Option.map_some, hzz] at hz'; simp at hz'
  | some z =>
    rw [Option.map_some, hzz] at hz'
    simp at hz'
    refine ⟨hu, i, z, hi, h1, h2, hzz, ?_⟩
    have := congrArg List.length hz'
    simp at this
    omega


/-- An object is given up. -/
theorem HoldsT.kill {X : Ctx} {T : Tab} {a : Act} {w : World} (h : HoldsT ρ X T σ a w) (k : Nat) (hforb : ∀ r c, ¬ σ.forb k r c) :
    HoldsT ρ X T { σ with objs := Objs.put σ.objs k none } a w ∧ ∀ (q : V) (v : Value), Rep ρ w (Live X.A T σ.objs) T q v → Rep ρ w (Live X.A T (Objs.put σ.objs k none)) T q v := by
  have hget : ∀ (j : Nat) (x : Ob), Objs.put σ.objs k none j = some x → σ.objs j = some x := by
    intro j x hj
    unfold Objs.put at hj
    by_cases e : j = k
    · rw [if_pos e] at hj; cases hj
    · rw [if_neg e] at hj; exact hj
  have hrep : ∀ (q : V) (v : Value), Rep ρ w (Live X.A T σ.objs) T q v → Rep ρ w (Live X.A T (Objs.put σ.objs k none)) T q v :=
    fun q v hq => hq.congr fun b hl => hl.imp id fun ⟨j, x, p, h1, h2, h3⟩ => ⟨j, x, p, hget j x h1, h2, h3⟩
  refine ⟨⟨h.pre, ⟨h.mem.avoid, h.mem.low, fun j x hj => ?_, fun i j x y p q hi hj => h.mem.inj i j x y p q (hget i x hi) (hget j y hj), h.mem.glob.congr fun b hl => hl.imp id fun ⟨j, x, p, h1, h2, h3⟩ => ⟨j, x, p, hget j x h1, h2, h3⟩⟩, fun j hj => ?_, fun t => hrep _ _ (h.tmp t), h.size, h.defers.map hrep, h.keep, h.fresh, fun j h1 h2 => h.old j h1 ?_, fun j r c h1 h2 => ?_, h.pc, h.hforb, h.hks⟩, hrep⟩
  · obtain ⟨p, h1, hA, h2⟩ := h.mem.obj j x (hget j x hj)
    exact ⟨p, h1, hA, h2.later rfl hrep⟩
  · obtain ⟨g1, g2⟩ := h.top j hj
    refine ⟨g1, ?_⟩
    show Objs.put σ.objs k none j = none
    unfold Objs.put
    split
    · rfl
    · exact g2
  · intro h3
    apply h2
    show Objs.put σ.objs k none j = none
    unfold Objs.put
    split
    · rfl
    · exact h3
  · show Objs.put σ.objs k none j ≠ none
    unfold Objs.put
    rw [if_neg (fun e2 => by subst e2; exact hforb r c (by rw [← h.hforb]; exact h1))]
    exact h.stay j r c h1 h2

/-- The rows of what was, and of what is appended behind it. -/
def appRow (len : Nat) (g f : Nat → Option (List V)) (m r : Nat) : Option (List V) := if r < len then g r else if r < len + m then f (r - len) else none

/-- append to nil. -/
theorem qo_append_nil {C : CellP} {o : Oper} {s x : Operand} {t tx : TypeId} {e es eb m : Nat} {f : Nat → Option (List V)} {N : St → Prop} (ho : isAppend o s x t tx)
    (hsv : evalV σ s = .sc (.slice none 0 0)) (hr : srcOf σ es (evalV σ x) = some (m, f)) (hf : ∀ r, r < m → (f r).isSome = true) (hel : ElOK P t e es eb) (htx : TxOK P tx)
    (hs : 0 < es) (hne : 0 < m) (h63 : m ≤ 9223372036854775807) (h48 : m * eb ≤ 281474976710656) (hd : dstOK o σ)
    (h : N (({ σ with objs := Objs.put σ.objs σ.next (some ⟨es, appRow 0 (fun _ => none) f m, false⟩), next := σ.next + 1 } : St).put o.dst (.sl σ.next 0 m false))) : QO ρ P C o σ N K := by
  obtain ⟨hu, i, z, hi, h1, h2, hz, hzs⟩ := hel
  subst h1 h2
  refine qo_new rfl hd ?_ h
  intro X T a w hh
  have e1 := rep_sc (ev_rep hh hsv)
  obtain ⟨news, hlen, g1, g2, g3, g4⟩ := src_cells P hh (eval_rep hh x) hr hs hf
  have hall : ∀ w1 : World, w1.heap = w.heap → (Builtin.firstCells i.size m (a.eval x)).run P w1 = .ok news.toArray w1 := fun w1 hw => by
    have := g2 m w1 (Nat.le_refl _) hw
    rwa [List.take_of_length_le (by omega)] at this
  · obtain ⟨D, hrun, hD⟩ := run_app_nil w t tx o.type e i z hu htx hi hz (a.eval x) m news hlen g1 hall hne h63 h48
    refine ⟨news.toArray ++ D, e, _, w.drew, rfl, rfl, rfl, rfl, run_of_append ho (by rw [e1]; exact hrun), fun r row hrow => ?_, fun T' w' L hT hb => ?_⟩
    · simp only [appRow] at hrow
      rw [if_neg (by omega)] at hrow
      split at hrow
      · rename_i hlt
        obtain ⟨k1, k2, k3⟩ := g3 r row (by omega) hrow
        refine ⟨k1, k2, fun c q hq => ?_⟩
        obtain ⟨v, f1, f2⟩ := k3 c q hq
        refine ⟨v, ?_, f2⟩
        rw [Array.getElem?_append_left (by have := lt_of_get f1; simpa using this)]
        simpa using f1
      · cases hrow
    · have hge := grown_ge w m 0 e
      exact .sl σ.next 0 m false ⟨w.heap.size, 0, i.size⟩ 0 _ hT (.inr (by simp)) hge (fun hx => by cases hx) ⟨_, _, _, hb, by
        simp only [Array.size_append, List.size_toArray, g1, hD, hzs]
        rw [Nat.zero_add, ← Nat.add_mul]
        exact Nat.mul_le_mul_right _ (by omega)⟩

/-- What may stand ahead of an append of nothing. -/
def V.appB : V → Bool
  | .sc (.slice none 0 0) => true
  | .sl _ _ _ _ => true
  | _ => false

/-- Nothing is appended. -/
theorem qq_append_none {C : CellP} {o : Oper} {s x : Operand} {t tx : TypeId} {e es eb : Nat} {p : V} {f : Nat → Option (List V)} (ho : isAppend o s x t tx)
    (hsv : evalV σ s = p) (hp : p.appB = true) (hr : srcOf σ es (evalV σ x) = some (0, f)) (hel : ElOK P t e es eb) (htx : TxOK P tx) (hs : 0 < es) : QQ ρ P σ C o p := by
  intro X T a w hh
  obtain ⟨hu, i, z, hi, h1, h2, hz, hzs⟩ := hel
  have hpr := ev_rep hh hsv
  have hbase : ∃ b n c, a.eval s = .slice b n c ∧ n ≤ c := by
    unfold V.appB at hp
    split at hp
    · exact ⟨none, 0, 0, rep_sc hpr, Nat.le_refl _⟩
    · obtain ⟨q, at_, cap, _, _, hc, _, _, e1⟩ := rep_sl hpr; exact ⟨_, _, _, e1, hc⟩
    · cases hp
  obtain ⟨b, n, c, e1, hc⟩ := hbase
  obtain ⟨news, hlen, g1, g2, g3, g4⟩ := src_cells P hh (eval_rep hh x) hr hs (fun r hr => by omega)
  refine ⟨a.eval s, hpr, fun w' _ _ => ?_⟩
  have hsz : news = [] := List.length_eq_zero_iff.mp (by rw [g1]; omega)
  have hfc : (Builtin.firstCells i.size 0 (a.eval x)).run P w' = .ok #[] w' := by
    have hx0 : ∀ w1, (Builtin.lenOf (a.eval x)).run P w1 = .ok 0 w1 := hlen
    cases hv : a.eval x with
    | slice ad n c => cases ad <;> simp [Builtin.firstCells, loadCells, loadCellsFrom]
    | string sx => 
      simp [Builtin.firstCells]
    | _ => rw [hv] at hlen; have := hlen w'; simp [Builtin.lenOf] at this
  have := run_app_none (P := P) w' t tx o.type e i hu htx hi b n c hc (a.eval x) hlen hfc
  rw [← e1] at this
  exact run_of_append ho this

section
variable {C : CellP} {o : Oper} {s x : Operand} {t tx : TypeId} {e es eb k off len m : Nat} {ob : Ob} {f : Nat → Option (List V)} {N : St → Prop}

/-- The cells of a slice of an object. -/
theorem old_cells {X : Ctx} {T : Tab} {a : Act} {w : World} (hh : HoldsT ρ X T σ a w) {full : Bool} (hsv : evalV σ s = .sl k off len full) (hk : σ.objs k = some ob) (hmp : ob.mp = false) (hs : 0 < ob.s) :
    ∃ (p : Pl) (at_ cap : Nat) (C0 : Array Value) (t0 : TypeId), T k = some p ∧ p.s = ob.s ∧ (len = 0 ∨ at_ = p.o + off * p.s) ∧ len ≤ cap ∧ (full = true → cap = len) ∧ w.heap[p.b]? = some (.cells C0 t0 (0, 0)) ∧ at_ + cap * p.s ≤ C0.size ∧
      a.eval s = .slice (some ⟨p.b, at_, none⟩) len cap ∧ ∃ olds : List Value, olds.length = len * p.s ∧ (∀ j v, olds[j]? = some v → C0[at_ + j]? = some v) ∧
      ∀ (r : Nat) (row : List V), r < len → ob.row (off + r) = some row → row.length = ob.s ∧ (∀ q ∈ row, q.one = true) ∧ ∀ (c : Nat) (q : V), row[c]? = some q → ∃ v, olds[r * p.s + c]? = some v ∧ C0[at_ + (r * p.s + c)]? = some v ∧ Rep ρ w (Live X.A T σ.objs) T q v := by
  obtain ⟨p, at_, cap, hT, ha, hc, hfu, ⟨C1, t1, fr1, hC1, hroom⟩, e1⟩ := rep_sl (ev_rep hh hsv)
  obtain ⟨p', hT', _, hs', hcs, _⟩ := hh.mem.obj k ob hk
  obtain ⟨C0, t0, hb, hrows⟩ := hcs hmp
  rw [hT] at hT'
  cases hT'
  rw [hb] at hC1
  injection hC1 with hC1
  injection hC1 with j1 j2 j3
  subst j1 j2
  have hle : len * p.s ≤ cap * p.s := Nat.mul_le_mul_right _ hc
  have hget : ∀ j, j < len * p.s → ((C0.toList.drop at_).take (len * p.s))[j]? = C0[at_ + j]? := by
    intro j hj
    rw [List.getElem?_take, if_pos hj, List.getElem?_drop, Array.getElem?_toList]
  refine ⟨p, at_, cap, C0, t0, hT, hs', ha, hc, hfu, hb, hroom, e1, (C0.toList.drop at_).take (len * p.s), by simp; omega, fun j v hj => ?_, fun r row hr hrow => ?_⟩
  · have hjl : j < len * p.s := by have := lt_of_get hj; simp at this; omega
    rw [← hget j hjl]
    exact hj
  · obtain ⟨k1, k2, k3⟩ := hrows _ row hrow
    refine ⟨k1, k2, fun c q hq => ?_⟩
    obtain ⟨v, k4, k5⟩ := k3 c q hq
    have hcl := lt_of_get hq
    have hj : r * p.s + c < len * p.s := by
      have : (r + 1) * p.s ≤ len * p.s := Nat.mul_le_mul_right _ hr
      rw [Nat.add_mul, Nat.one_mul] at this
      omega
    have e3 : at_ = p.o + off * p.s := by
      rcases ha with g | g
      · omega
      · exact g
    have e4 : C0[at_ + (r * p.s + c)]? = some v := by
      rw [e3, show p.o + off * p.s + (r * p.s + c) = p.o + ((off + r) * p.s + c) by rw [Nat.add_mul]; omega]
      exact k4
    exact ⟨v, by rw [hget _ hj]; exact e4, e4, k5⟩

theorem app_rows {R : V → Value → Prop} {g : Nat → Option (List V)} {olds news : List Value} {D : Array Value} {s : Nat} (ho : olds.length = len * s) (hn : news.length = m * s)
    (h1 : ∀ (r : Nat) (row : List V), r < len → g r = some row → row.length = s ∧ (∀ q ∈ row, q.one = true) ∧ ∀ (c : Nat) (q : V), row[c]? = some q → ∃ v, olds[r * s + c]? = some v ∧ R q v)
    (h2 : ∀ (r : Nat) (row : List V), r < m → f r = some row → row.length = s ∧ (∀ q ∈ row, q.one = true) ∧ ∀ (c : Nat) (q : V), row[c]? = some q → ∃ v, news[r * s + c]? = some v ∧ R q v)
    (r : Nat) (row : List V) (hr : appRow len g f m r = some row) : row.length = s ∧ (∀ q ∈ row, q.one = true) ∧ ∀ (c : Nat) (q : V), row[c]? = some q → ∃ v, ((olds ++ news).toArray ++ D)[r * s + c]? = some v ∧ R q v := by
  unfold appRow at hr
  have fin : ∀ (j : Nat) (v : Value), (olds ++ news)[j]? = some v → ((olds ++ news).toArray ++ D)[j]? = some v := by
    intro j v hj
    rw [Array.getElem?_append_left (by have := lt_of_get hj; simpa using this)]
    simpa using hj
  split at hr
  · rename_i hlt
    obtain ⟨k1, k2, k3⟩ := h1 r row hlt hr
    refine ⟨k1, k2, fun c q hq => ?_⟩
    obtain ⟨v, k4, k5⟩ := k3 c q hq
    exact ⟨v, fin _ v (by rw [List.getElem?_append_left (lt_of_get k4)]; exact k4), k5⟩
  · rename_i hge
    split at hr
    · obtain ⟨k1, k2, k3⟩ := h2 (r - len) row (by omega) hr
      refine ⟨k1, k2, fun c q hq => ?_⟩
      obtain ⟨v, k4, k5⟩ := k3 c q hq
      refine ⟨v, fin _ v ?_, k5⟩
      have e1 : r * s + c = olds.length + ((r - len) * s + c) := by
        rw [ho, Nat.sub_mul]
        have : len * s ≤ r * s := Nat.mul_le_mul_right _ (by omega)
        omega
      rw [e1, List.getElem?_append_right (by omega), Nat.add_sub_cancel_left]
      exact k4
    · cases hr

/-- append where there is no room. -/
theorem qo_append_full (ho : isAppend o s x t tx) (hsv : evalV σ s = .sl k off len true) (hk : σ.objs k = some ob) (hmp : ob.mp = false) (hst : ob.s = es)
    (hr : srcOf σ es (evalV σ x) = some (m, f)) (hf : ∀ r, r < m → (f r).isSome = true) (hel : ElOK P t e es eb) (htx : TxOK P tx) (hs : 0 < es) (hne : 0 < m)
    (h63 : len + m ≤ 9223372036854775807) (h47 : (len + m) * eb ≤ 140737488355328) (hd : dstOK o σ)
    (h : N (({ σ with objs := Objs.put σ.objs σ.next (some ⟨es, appRow len (fun r => ob.row (off + r)) f m, false⟩), next := σ.next + 1 } : St).put o.dst (.sl σ.next 0 (len + m) false))) : QO ρ P C o σ N K := by
  obtain ⟨hu, i, z, hi, h1, h2, hz, hzs⟩ := hel
  subst h1 h2
  refine qo_new rfl hd ?_ h
  intro X T a w hh
  obtain ⟨p, at_, cap, C0, t0, hT, hps, ha, hc, hfu, hb, hroom, e1, olds, ho1, ho2, ho3⟩ := old_cells hh hsv hk hmp (by omega)
  have hcap := hfu rfl
  obtain ⟨news, hlen, g1, g2, g3, g4⟩ := src_cells P hh (eval_rep hh x) hr hs hf
  have hall : ∀ w1 : World, w1.heap = w.heap → (Builtin.firstCells i.size m (a.eval x)).run P w1 = .ok news.toArray w1 := fun w1 hw => by
    have := g2 m w1 (Nat.le_refl _) hw
    rwa [List.take_of_length_le (by omega)] at this
  · have hsz : p.s = i.size := by omega
    obtain ⟨D, hrun, hD⟩ := run_app_grow w t tx o.type e i z hu htx hi hz ⟨p.b, at_, none⟩ len cap olds (by rw [← hsz]; exact ho1) (fun j v hj => by rw [add_at]; simp [World.cell?, hb, ho2 j v hj]) (a.eval x) m news hlen g1 hall (by omega) h63 h47
    refine ⟨(olds ++ news).toArray ++ D, e, _, w.drew, rfl, rfl, rfl, rfl, run_of_append ho (by rw [e1]; exact hrun), fun r row hrow => ?_, fun T' w' L hT' hb' => ?_⟩
    · exact app_rows (R := Rep ρ w (Live X.A T σ.objs) T) (by rw [← hsz]; exact ho1) g1 (fun r row hlt hrow => by
        obtain ⟨k1, k2, k3⟩ := ho3 r row hlt hrow
        exact ⟨by omega, k2, fun c q hq => by obtain ⟨v, k4, _, k5⟩ := k3 c q hq; exact ⟨v, by rw [← hsz]; exact k4, k5⟩⟩) g3 r row hrow
    · have hge := grown_ge w (len + m) cap e
      refine .sl σ.next 0 (len + m) false ⟨w.heap.size, 0, i.size⟩ 0 _ hT' (.inr (by simp)) hge (fun hx => by cases hx) ⟨_, _, _, hb', ?_⟩
      simp only [Array.size_append, List.size_toArray, List.length_append, g1, ho1, hD, hzs, hsz]
      rw [Nat.zero_add, ← Nat.add_mul, ← Nat.add_mul]
      exact Nat.mul_le_mul_right _ (by omega)

/-- append where there may be room: what it is appended to is given up. -/
theorem qo_append (ho : isAppend o s x t tx) (hsv : evalV σ s = .sl k off len false) (hk : σ.objs k = some ob) (hmp : ob.mp = false) (hst : ob.s = es)
    (hr : srcOf σ es (evalV σ x) = some (m, f)) (hf : ∀ r, r < m → (f r).isSome = true) (hel : ElOK P t e es eb) (htx : TxOK P tx) (hs : 0 < es) (hne : 0 < m)
    (h63 : len + m ≤ 9223372036854775807) (h47 : (len + m) * eb ≤ 140737488355328) (hforb : ∀ r c, ¬ σ.forb k r c) (hC : ∀ r c, ¬ C k r c) (hd : dstOK o σ)
    (h : N (({ σ with objs := Objs.put (Objs.put σ.objs k none) σ.next (some ⟨es, appRow len (fun r => ob.row (off + r)) f m, false⟩), next := σ.next + 1 } : St).put o.dst (.sl σ.next 0 (len + m) false))) : QO ρ P C o σ N K := by
  obtain ⟨hu, i, z, hi, h1, h2, hz, hzs⟩ := hel
  subst h1 h2
  intro X T a w hh
  obtain ⟨p, at_, cap, C0, t0, hT, hps, ha, hc, hfu, hb, hroom, e1, olds, ho1, ho2, ho3⟩ := old_cells hh hsv hk hmp (by omega)
  have hsz : p.s = i.size := by omega
  have hkn : ¬ σ.next = k := fun e => by
    have := (hh.top σ.next (Nat.le_refl _)).2
    rw [e, hk] at this
    cases this
  obtain ⟨news, hlen, g1, g2, g3, g4⟩ := src_cells P hh (eval_rep hh x) hr hs hf
  have hall : ∀ w1 : World, w1.heap = w.heap → (Builtin.firstCells i.size m (a.eval x)).run P w1 = .ok news.toArray w1 := fun w1 hw => by
    have := g2 m w1 (Nat.le_refl _) hw
    rwa [List.take_of_length_le (by omega)] at this
  · have holds : ∀ (r : Nat) (row : List V), r < len → ob.row (off + r) = some row → row.length = i.size ∧ (∀ q ∈ row, q.one = true) ∧ ∀ (c : Nat) (q : V), row[c]? = some q → ∃ v, olds[r * i.size + c]? = some v ∧ C0[at_ + (r * i.size + c)]? = some v ∧ Rep ρ w (Live X.A T σ.objs) T q v := by
      intro r row hlt hrow
      obtain ⟨k1, k2, k3⟩ := ho3 r row hlt hrow
      rw [hsz] at k3
      exact ⟨by omega, k2, k3⟩
    by_cases hg : cap < len + m
    · -- it grows
      obtain ⟨D, hrun, hD⟩ := run_app_grow w t tx o.type e i z hu htx hi hz ⟨p.b, at_, none⟩ len cap olds (by rw [← hsz]; exact ho1) (fun j v hj => by rw [add_at]; simp [World.cell?, hb, ho2 j v hj]) (a.eval x) m news hlen g1 hall (by omega) h63 h47
      obtain ⟨q1, q2⟩ := (drew_holds hh).kill k hforb
      obtain ⟨k1, k2, k3⟩ := q1.new ⟨i.size, appRow len (fun r => ob.row (off + r)) f m, false⟩ rfl ((olds ++ news).toArray ++ D) e (fun r row hrow => by
        obtain ⟨f1, f2, f3⟩ := app_rows (R := Rep ρ w (Live X.A T σ.objs) T) (D := D) (by rw [← hsz]; exact ho1) g1 (fun r row hlt hrow => by
          obtain ⟨k1, k2, k3⟩ := holds r row hlt hrow
          exact ⟨k1, k2, fun c q hq => by obtain ⟨v, k4, _, k5⟩ := k3 c q hq; exact ⟨v, k4, k5⟩⟩) g3 r row hrow
        exact ⟨f1, f2, fun c q hq => by obtain ⟨v, f4, f5⟩ := f3 c q hq; exact ⟨v, f4, q2 _ _ (rep_drew f5)⟩⟩)
      unfold Oper.wp
      rw [run_of_append ho (by rw [e1]; exact hrun)]
      refine ⟨_, _, h, k1.put ?_ hd, ?_⟩
      · have hge := grown_ge w (len + m) cap e
        refine .sl σ.next 0 (len + m) false ⟨w.heap.size, 0, i.size⟩ 0 _ (by show Tab.put T σ.next _ σ.next = _; unfold Tab.put; rw [if_pos rfl]; rfl) (.inr (by simp)) hge (fun hx => by cases hx) ⟨_, _, _, more_new w.drew _, ?_⟩
        simp only [Array.size_append, List.size_toArray, List.length_append, g1, ho1, hD, hzs, hsz]
        rw [Nat.zero_add, ← Nat.add_mul, ← Nat.add_mul]
        exact Nat.mul_le_mul_right _ (by omega)
      · rw [put_objs]
        have hs3 := k3 C
        have hsub : ∀ b, LiveO T (Objs.put σ.objs k none) b → LiveO T σ.objs b := by
          rintro b ⟨j, y, q, f1, f2, f3⟩
          unfold Objs.put at f1
          split at f1
          · cases f1
          · exact ⟨j, y, q, f1, f2, f3⟩
        refine ⟨stab_more w.drew _, SameC.of_blocks hh.mem.low fun b hb => more_old w.drew _ hb, hs3.ext, fun j r c hj hne => ?_, fun b hb hl => hsub b (hs3.live b hb hl), hs3.map⟩
        show Objs.put (Objs.put σ.objs k none) σ.next _ j ≠ none
        unfold Objs.put
        by_cases e3 : j = σ.next
        · rw [if_pos e3]; simp
        · rw [if_neg e3, if_neg (fun e4 => by subst e4; exact hC r c hj)]
          exact hne
    · -- there is room
      have hfit : at_ + len * i.size + news.length ≤ C0.size := by
        rw [g1]
        have : (len + m) * i.size ≤ cap * i.size := Nat.mul_le_mul_right _ (by omega)
        rw [Nat.add_mul] at this
        rw [hsz] at hroom
        omega
      have hrun := run_app_room w t tx o.type e t0 i hu htx hi p.b at_ len cap C0 hb (a.eval x) m news hlen g1 (hall w rfl) g4 (by omega) hfit
      have hget := putA_get news C0 (at_ + len * i.size)
      obtain ⟨k1, k2, k3⟩ := hh.repl (k' := σ.next) (p' := ⟨p.b, at_, i.size⟩) (ob' := ⟨i.size, appRow len (fun r => ob.row (off + r)) f m, false⟩) (C1 := putA C0 (at_ + len * i.size) news) hk (fun r c hx => (hforb r c hx).elim) hT hb (putA_size _ _ _) (.inr rfl) rfl rfl rfl (fun r row hrow => by
        simp only [appRow] at hrow
        split at hrow
        · rename_i hlt
          obtain ⟨f1, f2, f3⟩ := holds r row hlt hrow
          refine ⟨f1, f2, fun c q hq => ?_⟩
          obtain ⟨v, _, f4, f5⟩ := f3 c q hq
          refine ⟨v, ?_, f5⟩
          have hcl := lt_of_get hq
          have hj : r * i.size + c < len * i.size := by
            have : (r + 1) * i.size ≤ len * i.size := Nat.mul_le_mul_right _ hlt
            rw [Nat.add_mul, Nat.one_mul] at this
            omega
          simp only
          rw [hget _ hfit, if_neg (by omega)]
          exact f4
        · rename_i hge
          split at hrow
          · rename_i hlt2
            obtain ⟨f1, f2, f3⟩ := g3 (r - len) row (by omega) hrow
            refine ⟨f1, f2, fun c q hq => ?_⟩
            obtain ⟨v, f4, f5⟩ := f3 c q hq
            refine ⟨v, ?_, f5⟩
            have hcl := lt_of_get hq
            have e1 : r * i.size = len * i.size + (r - len) * i.size := by rw [← Nat.add_mul]; congr 1; omega
            have hj : (r - len) * i.size + c < news.length := lt_of_get f4
            simp only
            rw [hget _ hfit, if_pos (by omega), show at_ + (r * i.size + c) - (at_ + len * i.size) = (r - len) * i.size + c by omega]
            exact f4
          · cases hrow)
      rw [if_neg hkn] at k1
      unfold Oper.wp
      rw [run_of_append ho (by rw [e1]; exact hrun)]
      refine ⟨_, _, h, k1.put ?_ hd, ?_⟩
      · refine .sl σ.next 0 (len + m) false ⟨p.b, at_, i.size⟩ at_ cap (by unfold Tab.put; rw [if_pos rfl]) (.inr (by simp)) (by omega) (fun hx => by cases hx) ⟨_, _, _, upd_same w _ _ (lt_heap hb), ?_⟩
        rw [putA_size, ← hsz]
        exact hroom
      · rw [put_objs]
        exact k3 C (fun r c hx => (hC r c hx).elim)

end
end Go.Proofs.YtibmbbogjkecoaaDoor.M

/- Literals of structs and slices, and make. -/
namespace Go.Proofs.YtibmbbogjkecoaaDoor.M
open Go Go.RowKit
set_option linter.unusedSimpArgs false
set_option linter.unusedVariables false

variable {ρ : Nat → Value} {P : Program} {σ : St} {K : Ex → St → Prop}

/-- Cells by content. -/
def RepL (ρ : Nat → Value) (w : World) (L : Nat → Prop) (T : Tab) (row : List V) (cs : Array Value) : Prop :=
  cs.size = row.length ∧ ∀ (i : Nat) (q : V), row[i]? = some q → ∃ x, cs[i]? = some x ∧ Rep ρ w L T q x

theorem foldl_putA {off : Nat} : ∀ (vs : List Value) (j : Nat) (cs : Array Value), ((vs.zipIdx j).foldl (fun cs x => cs.setIfInBounds (off + x.2) x.1) cs) = putA cs (off + j) vs
  | [], j, cs => rfl
  | v :: vs, j, cs => by
    rw [List.zipIdx_cons, List.foldl_cons, foldl_putA vs (j + 1)]
    rfl

/-- Parts laid over cells: where each one goes. -/
def fillV (place : Nat → Option (Nat × Nat)) : List V → List (Nat × V) → Option (List V)
  | row, [] => some row
  | row, (i, q) :: rest => match place i with
    | none => none
    | some (off, size) => match Nat.beq (cellsV q).length size, Nat.ble (off + size) row.length, (cellsV q).all V.one with
      | true, true, true => fillV place (splice off row (cellsV q)) rest
      | _, _, _ => none

theorem fill_sound {w : World} {L : Nat → Prop} {T : Tab} {place : Nat → Option (Nat × Nat)} : ∀ (parts : List (Nat × V)) (vs : List (Nat × Value)) (row row' : List V) (cs : Array Value),
    RepL ρ w L T row cs → parts.length = vs.length → (∀ (j : Nat) (p : Nat × V) (x : Nat × Value), parts[j]? = some p → vs[j]? = some x → p.1 = x.1 ∧ Rep ρ w L T p.2 x.2) → fillV place row parts = some row' →
    ∃ cs', Instr.fill place cs vs = some cs' ∧ RepL ρ w L T row' cs'
  | [], vs, row, row', cs, h, hl, _, hf => by
    have : vs = [] := by cases vs with | nil => rfl | cons _ _ => simp at hl
    subst this
    cases hf
    exact ⟨cs, rfl, h⟩
  | (i, q) :: parts, vs, row, row', cs, h, hl, hr, hf => by
    obtain ⟨⟨i', v⟩, vs, rfl⟩ : ∃ v vs', vs = v :: vs' := by cases vs with | nil => simp at hl | cons v vs => exact ⟨v, vs, rfl⟩
    obtain ⟨e, hq⟩ := hr 0 (i, q) (i', v) rfl rfl
    simp only at e hq
    subst e
    unfold fillV at hf
    split at hf
    · cases hf
    · rename_i off size hp
      split at hf
      · rename_i h1 h2 h3
        have h1 := Nat.eq_of_beq_eq_true h1
        have h2 := Nat.le_of_ble_eq_true h2
        obtain ⟨g1, g2⟩ := cellsV_rep hq h3
        have hvl : v.cells.toList.length = (cellsV q).length := by simpa using g1
        have hput : RepL ρ w L T (splice off row (cellsV q)) (putA cs off v.cells.toList) := by
          refine ⟨by rw [putA_size, splice_length]; exact h.1, fun j p hp => ?_⟩
          rw [splice_get _ _ _ _ (by omega)] at hp
          rw [putA_get _ _ _ _ (by rw [hvl, h.1]; omega), hvl]
          split at hp
          · rename_i hin
            obtain ⟨x, f1, f2⟩ := g2 _ p hp
            exact ⟨x, by rw [if_pos hin]; simpa using f1, f2⟩
          · rename_i hin
            obtain ⟨x, f1, f2⟩ := h.2 j p hp
            exact ⟨x, by rw [if_neg hin]; exact f1, f2⟩
        obtain ⟨cs', k1, k2⟩ := fill_sound parts vs _ row' _ hput (by simpa using hl) (fun j p x hp hx => hr (j + 1) p x (by simpa using hp) (by simpa using hx)) hf
        refine ⟨cs', ?_, k2⟩
        unfold Instr.fill
        rw [hp]
        simp only
        rw [if_neg (by simp only [g1, h1, h.1]; simp; omega)]
        rw [← k1]
        congr 1
        rw [← Array.foldl_toList, Array.toList_zipIdx, foldl_putA]
        rfl
      · cases hf

/-- The parts of a literal. -/
def evalParts (σ : St) : List (Nat × Operand) → List (Nat × V)
  | [] => []
  | (i, x) :: xs => (i, evalV σ x) :: evalParts σ xs

theorem evalParts_eq (σ : St) : ∀ xs : List (Nat × Operand), evalParts σ xs = xs.map fun x => (x.1, evalV σ x.2)
  | [] => rfl
  | (i, x) :: xs => by simp [evalParts, evalParts_eq σ xs]

theorem parts_rep {X : Ctx} {T : Tab} {a : Act} {w : World} (h : HoldsT ρ X T σ a w) (parts : Array (Nat × Operand)) :
    (evalParts σ parts.toList).length = (parts.map fun x => (x.1, a.eval x.2)).toList.length ∧
    ∀ (j : Nat) (p : Nat × V) (x : Nat × Value), (evalParts σ parts.toList)[j]? = some p → (parts.map fun x => (x.1, a.eval x.2)).toList[j]? = some x → p.1 = x.1 ∧ Rep ρ w (Live X.A T σ.objs) T p.2 x.2 := by
  refine ⟨by simp [evalParts_eq], fun j p x hp hx => ?_⟩
  rw [evalParts_eq, List.getElem?_map] at hp
  simp only [Option.map_eq_some_iff] at hp
  obtain ⟨y, hy, rfl⟩ := hp
  rw [Array.toList_map, List.getElem?_map, hy] at hx
  cases hx
  exact ⟨rfl, eval_rep h _⟩

theorem zero_repL {w : World} {L : Nat → Prop} {T : Tab} (z : Array Value) : RepL ρ w L T (z.toList.map cv) z := by
  refine ⟨by simp, fun i q hq => ?_⟩
  rw [List.getElem?_map] at hq
  simp only [Option.map_eq_some_iff] at hq
  obtain ⟨v, hv, rfl⟩ := hq
  exact ⟨v, by simpa using hv, rep_cv _ _ _ v⟩

def placeOf (fs : List (Nat × Nat × Bool)) (i : Nat) : Option (Nat × Nat) := match fs[i]? with
  | some (off, size, _) => some (off, size)
  | none => none

theorem fields_places {t : TypeId} {ti : TI} (ht : TyOK P t ti) {fs : List (Nat × Nat × Bool)} (hs : ti.sh = .struct fs) :
    ∃ F : Array Field, P.underlying t = some (.struct F) ∧
      ∀ w, (F.mapM fun (f : Field) => do pure (f.offset, ← sizeOf f.type)).run P w = .ok (fs.map fun x => (x.1, x.2.1)).toArray w := by
  have h1 := ht.sh
  unfold shOf at h1
  rw [hs] at h1
  obtain ⟨F, hF, _⟩ := struct_of ht hs
  rw [hF] at h1
  simp only [Option.map_eq_some_iff] at h1
  obtain ⟨l, hl, hle⟩ := h1
  injection hle with hle
  subst hle
  refine ⟨F, hF, fun w => ?_⟩
  have key : ∀ (L : List Field) (l : List (Nat × Nat × Bool)), L.mapM (fieldSh P) = some l → (L.mapM fun (f : Field) => do pure (f.offset, ← sizeOf f.type)).run P w = .ok (l.map fun x => (x.1, x.2.1)) w := by
    intro L
    induction L with
    | nil => intro l hl; simp at hl; subst hl; simp
    | cons f L ih =>
      intro l hl
      rw [List.mapM_cons] at hl
      simp only [Option.pure_def, Option.bind_eq_bind, Option.bind_eq_some_iff] at hl
      obtain ⟨y, hy, l', hl', hle⟩ := hl
      injection hle with hle
      subst hle
      have h2 := ih l' hl'
      unfold fieldSh at hy
      split at hy
      · rename_i j d hj hd
        injection hy with hy
        subst hy
        rw [List.mapM_cons]
        simp [Go.sizeOf, typeInfo, hj] at h2 ⊢
        rw [h2]
        rfl
      · cases hy
  have h2 := key F.toList l hl
  rw [← Array.toList_mapM] at h2
  simp only [Sem.run_map] at h2
  cases hr : (F.mapM fun (f : Field) => do pure (f.offset, ← sizeOf f.type) : Sem (Array (Nat × Nat))).run P w with
  | ok v w' =>
    rw [hr] at h2
    simp at h2
    obtain ⟨e1, e2⟩ := h2
    subst e2
    rw [← e1]
  | halt x w' => rw [hr] at h2; simp at h2

theorem placeOf_eq (fs : List (Nat × Nat × Bool)) : placeOf fs = fun i => ((fs.map fun x => (x.1, x.2.1)).toArray)[i]? := by
  funext i
  unfold placeOf
  simp
  cases fs[i]? with
  | none => rfl
  | some p => rfl

theorem qq_build {C : CellP} {o : Oper} {t : TypeId} {ti : TI} {fs : List (Nat × Nat × Bool)} {parts : Array (Nat × Operand)} {row : List V} (ho : o.op = .build t parts)
    (ht : TyOK P t ti) (hs : ti.sh = .struct fs) (hf : fillV (placeOf fs) (ti.zero.map cv) (evalParts σ parts.toList) = some row) : QQ ρ P σ C o (.agg row) := by
  intro X T a w h
  obtain ⟨z, hz1, hz2⟩ := ht.zeroValue
  obtain ⟨F, hF, hpl⟩ := fields_places ht hs
  obtain ⟨h1, h2⟩ := parts_rep h parts
  have hz0 : RepL ρ w (Live X.A T σ.objs) T (ti.zero.map cv) z.cells := by rw [← hz1]; exact zero_repL _
  obtain ⟨cs, h3, h4⟩ := fill_sound _ _ _ row z.cells hz0 h1 h2 hf
  rw [placeOf_eq] at h3
  refine ⟨.agg cs, .agg row cs h4.1 (fun i q hq => by
    obtain ⟨x, h5, h6⟩ := h4.2 i q hq
    rw [getD_of h5]
    exact h6), fun w' _ _ => ?_⟩
  have hp := hpl w'
  simp only [execOp, ho, Instr.build, Sem.run_bind, hz2, Result.andThen, run_underlying hF, hp, h3, Sem.run_pure]

theorem flatten_at {rows : List (List V)} {s : Nat} (hrows : ∀ row ∈ rows, row.length = s) {r : Nat} {row : List V} (hr : rows[r]? = some row) {c : Nat} {q : V} (hq : row[c]? = some q) : rows.flatten[r * s + c]? = some q := by
  induction rows generalizing r with
  | nil => simp at hr
  | cons x rows ih =>
    have hx : x.length = s := hrows x (by simp)
    cases r with
    | zero =>
      simp at hr
      subst hr
      rw [List.flatten_cons, Nat.zero_mul, Nat.zero_add, List.getElem?_append_left (lt_of_get hq)]
      exact hq
    | succ r =>
      simp at hr
      rw [List.flatten_cons, List.getElem?_append_right (by rw [hx, Nat.add_mul]; omega), hx, show (r + 1) * s + c - s = r * s + c by rw [Nat.add_mul]; omega]
      exact ih (fun row h => hrows row (by simp [h])) hr

/-- Parts of a slice's literal that stand for whole rows, one behind the other from row n on. -/
def rowsP (es : Nat) : Nat → List (Nat × V) → Option (List (List V))
  | _, [] => some []
  | n, (i, q) :: rest => match Nat.beq i n, Nat.beq (cellsV q).length es, (cellsV q).all V.one with
    | true, true, true => match rowsP es (n + 1) rest with
      | some l => some (cellsV q :: l)
      | none => none
    | _, _, _ => none

theorem fill_rows {w : World} {L : Nat → Prop} {T : Tab} {es : Nat} (hes : 0 < es) : ∀ (parts : List (Nat × V)) (vs : List (Nat × Value)) (n : Nat) (rows : List (List V)) (cs : Array Value),
    parts.length = vs.length → (∀ (j : Nat) (p : Nat × V) (x : Nat × Value), parts[j]? = some p → vs[j]? = some x → p.1 = x.1 ∧ Rep ρ w L T p.2 x.2) → rowsP es n parts = some rows → (n + parts.length) * es ≤ cs.size →
    ∃ cs', Instr.fill (fun i => some (i * es, es)) cs vs = some cs' ∧ cs'.size = cs.size ∧ rows.length = parts.length ∧ (∀ j, j < n * es → cs'[j]? = cs[j]?) ∧
      ∀ (r : Nat) (row : List V), rows[r]? = some row → row.length = es ∧ (∀ q ∈ row, q.one = true) ∧ ∀ (c : Nat) (q : V), row[c]? = some q → ∃ v, cs'[(n + r) * es + c]? = some v ∧ Rep ρ w L T q v
  | [], vs, n, rows, cs, hl, _, hf, _ => by
    have : vs = [] := by cases vs with | nil => rfl | cons _ _ => simp at hl
    subst this
    cases hf
    exact ⟨cs, rfl, rfl, rfl, fun _ _ => rfl, fun r row hr => by simp at hr⟩
  | (i, q) :: parts, vs, n, rows, cs, hl, hr, hf, hsz => by
    obtain ⟨⟨i', v⟩, vs, rfl⟩ : ∃ v vs', vs = v :: vs' := by cases vs with | nil => simp at hl | cons v vs => exact ⟨v, vs, rfl⟩
    obtain ⟨e, hq⟩ := hr 0 (i, q) (i', v) rfl rfl
    simp only at e hq
    subst e
    unfold rowsP at hf
    split at hf
    · rename_i h1 h2 h3
      split at hf
      · rename_i l hl2
        cases hf
        have h1 := Nat.eq_of_beq_eq_true h1
        have h2 := Nat.eq_of_beq_eq_true h2
        subst h1
        obtain ⟨g1, g2⟩ := cellsV_rep hq h3
        have hvl : v.cells.toList.length = es := by have : v.cells.toList.length = (cellsV q).length := by simpa using g1
                                                    omega
        simp only [List.length_cons] at hsz hl
        have hsz' : i * es + es ≤ cs.size := by
          have : (i + 1) * es ≤ (i + (parts.length + 1)) * es := Nat.mul_le_mul_right _ (by omega)
          rw [Nat.add_mul, Nat.one_mul] at this
          omega
        obtain ⟨cs', k1, k2, k3, k4, k5⟩ := fill_rows hes parts vs (i + 1) l (putA cs (i * es) v.cells.toList) (by omega) (fun j p x hp hx => hr (j + 1) p x (by simpa using hp) (by simpa using hx)) hl2
          (by rw [putA_size, show i + 1 + parts.length = i + (parts.length + 1) by omega]; exact hsz)
        rw [putA_size] at k2
        have hget := fun j => putA_get v.cells.toList cs (i * es) j (by omega)
        rw [hvl] at hget
        refine ⟨cs', ?_, k2, by simp [k3], fun j hj => ?_, fun r row hrow => ?_⟩
        · unfold Instr.fill
          simp only
          rw [if_neg (by
            have : v.cells.size = es := by simpa using hvl
            simp [this]
            omega)]
          rw [← k1]
          congr 1
          rw [← Array.foldl_toList, Array.toList_zipIdx, foldl_putA]
          rfl
        · rw [k4 j (by rw [Nat.add_mul]; omega), hget, if_neg (by omega)]
        · cases r with
          | zero =>
            simp at hrow
            subst hrow
            refine ⟨h2, fun p hp => List.all_eq_true.mp h3 p hp, fun c p hp => ?_⟩
            obtain ⟨x, f1, f2⟩ := g2 c p hp
            have hcl := lt_of_get hp
            refine ⟨x, ?_, f2⟩
            rw [Nat.add_zero, k4 _ (by rw [Nat.add_mul]; omega), hget, if_pos (by omega), Nat.add_sub_cancel_left]
            simpa using f1
          | succ r =>
            simp at hrow
            obtain ⟨f1, f2, f3⟩ := k5 r row hrow
            exact ⟨f1, f2, fun c p hp => by rw [show i + (r + 1) = i + 1 + r by omega]; exact f3 c p hp⟩
      · cases hf
    · cases hf

def rowsOb (es : Nat) (rows : List (List V)) : Ob := ⟨es, fun r => rows[r]?, false⟩

/-- A literal of a slice: all rows are told. -/
theorem qo_buildSlice {C : CellP} {o : Oper} {t : TypeId} {e es eb n : Nat} {parts : Array (Nat × Operand)} {rows : List (List V)} {N : St → Prop} (ho : o.op = .buildSlice t n parts)
    (hel : ElOK P t e es eb) (hes : 0 < es) (hbig : n * es ≤ 16777216) (hn : rows.length = n)
    (hf : rowsP es 0 (evalParts σ parts.toList) = some rows) (hd : dstOK o σ)
    (h : N (({ σ with objs := Objs.put σ.objs σ.next (some (rowsOb es rows)), next := σ.next + 1 } : St).put o.dst (.sl σ.next 0 n true))) : QO ρ P C o σ N K := by
  obtain ⟨hu, i, z, hi, h1, h2, hz, hzs⟩ := hel
  subst h1
  refine qo_new rfl hd ?_ h
  intro X T a w hh
  obtain ⟨g1, g2⟩ := parts_rep hh parts
  by_cases hne0 : n * i.size = 0
  · have hn0 : n = 0 := by rcases Nat.mul_eq_zero.mp hne0 with g | g <;> omega
    subst hn0
    have hrows : rows = [] := List.eq_nil_of_length_eq_zero hn
    subst hrows
    obtain ⟨cs, k1, k2, k3, k4, k5⟩ := fill_rows (ρ := ρ) (w := w) (L := Live X.A T σ.objs) (T := T) hes (evalParts σ parts.toList) _ 0 [] ((Array.range (0 * i.size)).map (fun j => (#[] : Array Value)[j % (#[] : Array Value).size]!)) g1 g2 hf (by
      have : (evalParts σ parts.toList) = [] := by
        cases hp : evalParts σ parts.toList with
        | nil => rfl
        | cons p l =>
          rw [hp] at hf
          obtain ⟨a1, a2⟩ := p
          unfold rowsP at hf
          split at hf
          · split at hf
            · cases hf
            · cases hf
          · cases hf
      rw [this]
      simp)
    refine ⟨cs, e, .slice (some ⟨w.heap.size, 0, none⟩) 0 0, w, rfl, rfl, rfl, rfl, ?_, fun r row hr => by simp [rowsOb] at hr, fun T' w' L hT hb => ?_⟩
    · have h16 : ¬ (0 * i.size > 2 ^ 24) := by omega
      simp only [execOp, ho, Instr.buildSlice, Sem.run_bind, Result.andThen, run_underlying hu, Go.sizeOf, typeInfo, run_program, hi, Sem.run_pure, Sem.run_ite, h16, if_false, Nat.zero_mul, if_true, k1, newRow, run_newObj]
      rw [Nat.zero_mul] at k1
      rw [k1]
      rfl
    · exact .sl σ.next 0 0 true ⟨w.heap.size, 0, i.size⟩ 0 0 hT (.inl rfl) (Nat.le_refl _) (fun _ => rfl) ⟨_, _, _, hb, by simp⟩
  · have hpl : (evalParts σ parts.toList).length = n := by
      have : ∀ (l : List (Nat × V)) (m : Nat) (rows : List (List V)), rowsP i.size m l = some rows → rows.length = l.length := by
        intro l
        induction l with
        | nil => intro m rows h; cases h; rfl
        | cons p l ih =>
          intro m rows h
          obtain ⟨a1, a2⟩ := p
          unfold rowsP at h
          split at h
          · split at h
            · rename_i l' hl'
              cases h
              simp [ih _ _ hl']
            · cases h
          · cases h
      rw [← this _ _ _ hf, hn]
    obtain ⟨cs, k1, k2, k3, k4, k5⟩ := fill_rows (ρ := ρ) (w := w) (L := Live X.A T σ.objs) (T := T) hes (evalParts σ parts.toList) _ 0 rows ((Array.range (n * i.size)).map (fun j => z.cells[j % z.cells.size]!)) g1 g2 hf (by simp [hpl])
    refine ⟨cs, e, .slice (some ⟨w.heap.size, 0, none⟩) n n, w, rfl, rfl, rfl, rfl, ?_, fun r row hr => ?_, fun T' w' L hT hb => ?_⟩
    · have h16 : ¬ (n * i.size > 2 ^ 24) := by omega
      simp only [execOp, ho, Instr.buildSlice, Sem.run_bind, Result.andThen, run_underlying hu, Go.sizeOf, typeInfo, run_program, hi, Sem.run_pure, Sem.run_ite, h16, if_false, hne0, Go.zeroValue, hz, k1, newRow, run_newObj]
      rfl
    · obtain ⟨f1, f2, f3⟩ := k5 r row hr
      exact ⟨f1, f2, fun c q hq => by have := f3 c q hq; rw [Nat.zero_add] at this; exact this⟩
    · exact .sl σ.next 0 n true ⟨w.heap.size, 0, i.size⟩ 0 n hT (.inr (by simp)) (Nat.le_refl _) (fun _ => rfl) ⟨_, _, _, hb, by rw [k2]; simp⟩

/-- Rows of noughts. -/
def zeroOb (es n : Nat) (z : List V) : Ob := ⟨es, fun r => if r < n then some z else none, false⟩

theorem zero_cells (z : Array Value) (es m n : Nat) (hz : z.size = es) (hes : 0 < es) (hnm : n ≤ m) {w : World} {L : Nat → Prop} {T : Tab} (hone : (z.toList.map cv).all V.one = true) (r : Nat) (row : List V) (hr : (zeroOb es n (z.toList.map cv)).row r = some row) :
    row.length = es ∧ (∀ q ∈ row, q.one = true) ∧ ∀ (c : Nat) (q : V), row[c]? = some q → ∃ v, ((Array.range (m * es)).map (fun j => z[j % z.size]!))[r * es + c]? = some v ∧ Rep ρ w L T q v := by
  simp only [zeroOb] at hr
  split at hr
  · rename_i hrn
    cases hr
    refine ⟨by simpa using hz, fun q hq => List.all_eq_true.mp hone q hq, fun c q hq => ?_⟩
    rw [List.getElem?_map] at hq
    simp only [Option.map_eq_some_iff] at hq
    obtain ⟨v, hv, rfl⟩ := hq
    have hc : c < z.size := by have := lt_of_get hv; simpa using this
    have hj : r * es + c < m * es := by
      have : r * es + es ≤ m * es := by rw [← Nat.succ_mul]; exact Nat.mul_le_mul_right _ (by omega)
      omega
    refine ⟨v, ?_, rep_cv _ _ _ v⟩
    have : ((Array.range (m * es)).map (fun j => z[j % z.size]!))[r * es + c]? = some (z[(r * es + c) % z.size]!) := by
      rw [Array.getElem?_map, Array.getElem?_eq_getElem (by simpa using hj), Array.getElem_range]
      rfl
    rw [this]
    have e3 : (r * es + c) % z.size = c := by rw [hz, Nat.mul_comm, Nat.mul_add_mod]; exact Nat.mod_eq_of_lt (by omega)
    rw [e3, getElem!_pos z c hc]
    have h5 : z.toList[c]? = some v := hv
    rw [List.getElem?_eq_getElem (by simpa using hc)] at h5
    simpa using h5
  · cases hr

theorem run_make {o : Oper} {t : TypeId} {x y : Operand} {e es eb n : Nat} {k k' : IntKind} {i : TypeInfo} {z : Value} (ho : o.op = .makeSlice t x y) (hu : P.underlying t = some (.slice e)) (hi : P.info? e = some i) (hz : i.zero = some z)
    (h63 : n ≤ 9223372036854775807) (h48 : i.bytes * n ≤ 281474976710656) (a : Act) (w : World) (e1 : a.eval x = .int k n) (e2 : a.eval y = .int k' n) (hes : 0 < i.size) (hzs : z.cells.size = i.size) :
    (execOp a.eval o).run P w = .ok (.value (.slice (some ⟨w.heap.size, 0, none⟩) n n)) (more w (.cells ((Array.range (n * i.size)).map (fun j => z.cells[j % z.cells.size]!)) e (0, 0))) := by
  have w1 : IntKind.i64.wrap (n : Int) = n := IntWalk.i64_in _ (by omega)
  have c1 : ¬ ((n : Int) < 0) := by omega
  have c2 : ¬ ((i.bytes : Int) * (n : Int) > 2 ^ 48) := by
    have h9 : ((i.bytes * n : Nat) : Int) ≤ 281474976710656 := Int.ofNat_le.mpr h48
    rw [Int.natCast_mul] at h9
    intro h10
    have h11 : (2 : Int) ^ 48 = 281474976710656 := by decide
    omega
  have c4 : ¬ ((n : Int) > (n : Int)) := by omega
  by_cases hne : n * i.size = 0
  · have hn0 : n = 0 := by rcases Nat.mul_eq_zero.mp hne with g | g <;> omega
    subst hn0
    simp only [execOp, ho, Instr.makeSlice, Sem.run_bind, Result.andThen, run_underlying hu, e1, e2, asInt, asIntOf, Sem.run_pure, typeInfo, run_program, hi, w1, c1, c2, c4, decide_false, Bool.or_self, Bool.false_eq_true,
      if_false, run_askRoom, Go.sizeOf, Int.toNat_natCast, Sem.run_ite, Nat.zero_mul, if_true, newRow, run_newObj]
    have e0 : ∀ f : Nat → Value, Array.map f (Array.range 0) = #[] := fun f => by simp [Array.range]
    rw [e0, e0]
    rfl
  · simp only [execOp, ho, Instr.makeSlice, Sem.run_bind, Result.andThen, run_underlying hu, e1, e2, asInt, asIntOf, Sem.run_pure, typeInfo, run_program, hi, w1, c1, c2, c4, decide_false, Bool.or_self, Bool.false_eq_true,
      if_false, run_askRoom, Go.sizeOf, Int.toNat_natCast, Sem.run_ite, hne, Go.zeroValue, hz, newRow, run_newObj]
    rfl

/-- make of a slice, without room behind it. -/
theorem qo_makeSlice {C : CellP} {o : Oper} {t : TypeId} {x y : Operand} {e es eb n : Nat} {k k' : IntKind} {te : TI} {l : List V} {N : St → Prop} (ho : o.op = .makeSlice t x y)
    (hx : evalV σ x = .int k (.ofNat n)) (hy : evalV σ y = .int k' (.ofNat n)) (hel : ElOK P t e es eb) (he : TyOK P e te) (hes : 0 < es) (h63 : n ≤ 9223372036854775807)
    (h48 : eb * n ≤ 281474976710656) (hl : te.zero.map cv = l) (hone : l.all V.one = true) (hd : dstOK o σ)
    (h : N (({ σ with objs := Objs.put σ.objs σ.next (some (zeroOb es n l)), next := σ.next + 1 } : St).put o.dst (.sl σ.next 0 n true))) : QO ρ P C o σ N K := by
  obtain ⟨hu, i, z, hi, h1, h2, hz, hzs⟩ := hel
  subst h1 h2 hl
  refine qo_new rfl hd ?_ h
  intro X T a w hh
  have e1 := rep_int (ev_rep hh hx)
  have e2 := rep_int (ev_rep hh hy)
  have hzz : z.cells.toList = te.zero := by
    have := he.zero
    rw [hi, Option.map_some, hz] at this
    simpa using this
  rw [← hzz] at hone ⊢
  refine ⟨_, e, _, w, rfl, rfl, rfl, rfl, run_make (eb := i.bytes) (es := i.size) ho hu hi hz h63 h48 a w e1 e2 hes hzs, fun r row hr => zero_cells z.cells i.size n n hzs hes (Nat.le_refl _) hone r row hr, fun T' w' L hT hb => ?_⟩
  exact .sl σ.next 0 n true ⟨w.heap.size, 0, i.size⟩ 0 n hT (.inr (by simp [zeroOb])) (Nat.le_refl _) (fun _ => rfl) ⟨_, _, _, hb, by simp⟩

end Go.Proofs.YtibmbbogjkecoaaDoor.M
