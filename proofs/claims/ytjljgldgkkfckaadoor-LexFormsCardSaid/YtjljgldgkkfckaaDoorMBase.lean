/- The words of a machine by content: values, objects by number, and how they lie in a world. -/
import Derived.Below
import Derived.OrdersHeld
import Derived.WalkKit
import Derived.Test.YtjljgldgkkfckaaDoorMGlob
namespace Go.Proofs.YtjljgldgkkfckaaDoor.M
open Go Go.RowKit
set_option linter.unusedVariables false
set_option linter.unusedSimpArgs false

/-- The bytes of a text that is packed into a number: so many, the first one lowest. -/
def bytesL : Nat → Nat → List UInt8
  | 0, _ => []
  | l + 1, n => UInt8.ofNat (n % 256) :: bytesL l (n / 256)

def unpack (len n : Nat) : ByteArray := ⟨⟨bytesL len n⟩⟩

/-- A value by its content. 'un': whatever it is; 'sym': a value that has a number and no more; 'sc': a value as it is; 'ps': a packed text; 'ro': a slice that nobody writes any more, row by row; 'pro': the address of cells that nobody writes any more; 'ptr': the address of a cell of an object; 'sl': a slice of an object's rows (full: it has no room behind it). -/
inductive V where
  | un
  | sym (i : Nat)
  | sc (v : Value)
  | int (k : IntKind) (n : Int)
  | bool (b : Bool)
  | ps (len n : Nat)
  | ro (s : Nat) (rows : List (List V))
  | pro (cells : List V)
  | ptr (k r c : Nat)
  | sl (k off len : Nat) (full : Bool)
  | fn (f : FuncId) (cap : List V)
  | ifc (t : TypeId) (v : V)
  | agg (l : List V)
  | tup (l : List V)
  deriving Inhabited

/-- May it stand in one cell? -/
def V.one : V → Bool
  | .un | .sym _ | .agg _ | .tup _ => false
  | .sc (.agg _) | .sc (.tuple _) => false
  | _ => true

/-- An object: rows of cells, each of s cells. -/
structure Ob where
  s : Nat
  row : Nat → Option (List V)

instance : Inhabited Ob := ⟨⟨0, fun _ => none⟩⟩

@[reducible] def Objs : Type := Nat → Option Ob
/-- Where an object lies: its block, where in it, how many cells a row has. -/
structure Pl where
  b : Nat
  o : Nat
  s : Nat
@[reducible] def Tab : Type := Nat → Option Pl

/-- What is by content, and lies where nobody writes: blocks of L are written, or may be. -/
inductive RepP (ρ : Nat → Value) (w : World) (L : Nat → Prop) : V → Value → Prop
  | un (v : Value) : RepP ρ w L .un v
  | sym (i : Nat) : RepP ρ w L (.sym i) (ρ i)
  | sc (v : Value) : RepP ρ w L (.sc v) v
  | int (k : IntKind) (n : Int) : RepP ρ w L (.int k n) (.int k n)
  | bool (b : Bool) : RepP ρ w L (.bool b) (.bool b)
  | ps (len n : Nat) (h : n < 256 ^ len) : RepP ρ w L (.ps len n) (.string (unpack len n))
  | nil (s : Nat) : RepP ρ w L (.ro s []) (.slice none 0 0)
  | ro (s : Nat) (rows : List (List V)) (b o cap : Nat) (val : Nat → Nat → Value) (hL : ¬ L b) (hb : b < w.heap.size) (hc : rows.length ≤ cap)
      (hr : ∀ row ∈ rows, row.length = s ∧ ∀ q ∈ row, q.one = true)
      (hcell : ∀ (r : Nat) (row : List V), rows[r]? = some row → ∀ (c : Nat) (q : V), row[c]? = some q → w.cell? ⟨b, o + (r * s + c), none⟩ = some (val r c))
      (hrep : ∀ (r : Nat) (row : List V), rows[r]? = some row → ∀ (c : Nat) (q : V), row[c]? = some q → RepP ρ w L q (val r c)) :
      RepP ρ w L (.ro s rows) (.slice (some ⟨b, o, none⟩) rows.length cap)
  | pro (cells : List V) (b o : Nat) (val : Nat → Value) (hL : ¬ L b) (hb : b < w.heap.size) (hone : ∀ q ∈ cells, q.one = true)
      (hcell : ∀ (c : Nat) (q : V), cells[c]? = some q → w.cell? ⟨b, o + c, none⟩ = some (val c))
      (hrep : ∀ (c : Nat) (q : V), cells[c]? = some q → RepP ρ w L q (val c)) :
      RepP ρ w L (.pro cells) (.pointer (some ⟨b, o, none⟩))

/-- Any value: its objects lie as the table says. -/
inductive Rep (ρ : Nat → Value) (w : World) (L : Nat → Prop) (T : Tab) : V → Value → Prop
  | pure {q : V} {v : Value} (h : RepP ρ w L q v) : Rep ρ w L T q v
  | ptr (k r c : Nat) (p : Pl) (h : T k = some p) : Rep ρ w L T (.ptr k r c) (.pointer (some ⟨p.b, p.o + (r * p.s + c), none⟩))
  | sl (k off len : Nat) (full : Bool) (p : Pl) (at_ cap : Nat) (h : T k = some p) (ha : len = 0 ∨ at_ = p.o + off * p.s) (hc : len ≤ cap) (hf : full = true → cap = len)
      (hroom : ∃ C t fr, w.heap[p.b]? = some (.cells C t fr) ∧ at_ + cap * p.s ≤ C.size) :
      Rep ρ w L T (.sl k off len full) (.slice (some ⟨p.b, at_, none⟩) len cap)
  | fn (f : FuncId) (l : List V) (vs : Array Value) (hs : vs.size = l.length) (h : ∀ (i : Nat) (q : V), l[i]? = some q → Rep ρ w L T q (vs.getD i undef)) :
      Rep ρ w L T (.fn f l) (.func (.func f) #[] vs)
  | ifc (t : TypeId) (q : V) (v : Value) (h : Rep ρ w L T q v) : Rep ρ w L T (.ifc t q) (.iface t v)
  | agg (l : List V) (vs : Array Value) (hs : vs.size = l.length) (h : ∀ (i : Nat) (q : V), l[i]? = some q → Rep ρ w L T q (vs.getD i undef)) :
      Rep ρ w L T (.agg l) (.agg vs)
  | tup (l : List V) (vs : Array Value) (hs : vs.size = l.length) (h : ∀ (i : Nat) (q : V), l[i]? = some q → Rep ρ w L T q (vs.getD i undef)) :
      Rep ρ w L T (.tup l) (.tuple vs)

/-- An object's cells lie in a block of its own. -/
def RepOb (ρ : Nat → Value) (w : World) (L : Nat → Prop) (T : Tab) (p : Pl) (ob : Ob) : Prop :=
  p.s = ob.s ∧ ∃ C t, w.heap[p.b]? = some (.cells C t (0, 0)) ∧
    ∀ (r : Nat) (row : List V), ob.row r = some row → row.length = ob.s ∧ (∀ q ∈ row, q.one = true) ∧
      ∀ (c : Nat) (q : V), row[c]? = some q → ∃ v, C[p.o + (r * p.s + c)]? = some v ∧ Rep ρ w L T q v

/-- The blocks of all objects that are alive. -/
def LiveO (T : Tab) (objs : Objs) (b : Nat) : Prop := ∃ (k : Nat) (ob : Ob) (p : Pl), objs k = some ob ∧ T k = some p ∧ p.b = b

/-- The same, and what belongs to somebody else. -/
def Live (A : Nat → Prop) (T : Tab) (objs : Objs) (b : Nat) : Prop := A b ∨ LiveO T objs b

/-- Bytes as a number. -/
def packL : List UInt8 → Nat
  | [] => 0
  | b :: l => b.toNat + 256 * packL l

/-- Values of the text by content. -/
def cv : Value → V
  | .int k n => .int k n
  | .bool b => .bool b
  | .string s => .ps s.size (packL s.data.toList)
  | v => .sc v

/-- What nobody writes lies where it should. -/
def Globs (w : World) (L : Nat → Prop) : Prop :=
  ∀ (g : Nat) (vs : List Value), gdat g = some vs → ¬ L g ∧ g < w.heap.size ∧ ∀ (i : Nat) (v : Value), vs[i]? = some v → (cv v).one = true ∧ w.cell? ⟨g, i, none⟩ = some v

theorem Globs.later {w w' : World} {L L' : Nat → Prop} (h : Globs w L) (hsize : w.heap.size ≤ w'.heap.size)
    (hblock : ∀ b, b < w.heap.size → ¬ L b → w'.heap[b]? = w.heap[b]?) (hL' : ∀ b, b < w.heap.size → ¬ L b → ¬ L' b) : Globs w' L' := by
  intro g vs hg
  obtain ⟨h1, h2, h3⟩ := h g vs hg
  refine ⟨hL' g h2 h1, Nat.lt_of_lt_of_le h2 hsize, fun i v hi => ?_⟩
  obtain ⟨h4, h5⟩ := h3 i v hi
  refine ⟨h4, ?_⟩
  have e : w'.cell? ⟨g, i, none⟩ = w.cell? ⟨g, i, none⟩ := by
    unfold World.cell?
    rw [show w'.heap[(⟨g, i, none⟩ : Addr).block]? = w.heap[(⟨g, i, none⟩ : Addr).block]? from hblock g h2 h1]
  rw [e]
  exact h5

theorem Globs.congr {w : World} {L L' : Nat → Prop} (h : Globs w L) (hL : ∀ b, L' b → L b) : Globs w L' :=
  h.later (Nat.le_refl _) (fun _ _ _ => rfl) (fun b _ hn hl => hn (hL b hl))

/-- A world holds objects. -/
structure HoldsM (ρ : Nat → Value) (w : World) (A : Nat → Prop) (T : Tab) (objs : Objs) : Prop where
  avoid : ∀ b, A b → b < w.heap.size
  low : ∀ (k : Nat) (p : Pl), T k = some p → p.b < w.heap.size
  obj : ∀ (k : Nat) (ob : Ob), objs k = some ob → ∃ p, T k = some p ∧ ¬ A p.b ∧ RepOb ρ w (Live A T objs) T p ob
  inj : ∀ (i j : Nat) (x y : Ob) (p q : Pl), objs i = some x → objs j = some y → T i = some p → T j = some q → p.b = q.b → i = j
  glob : Globs w (Live A T objs)

/-- From w to w' nothing has changed but blocks of M, and no block's size. -/
structure Keep (M : Nat → Prop) (w w' : World) : Prop where
  os : w'.os = w.os
  tape : w'.tape = w.tape
  output : w'.output = w.output
  size : w.heap.size ≤ w'.heap.size
  block : ∀ b, b < w.heap.size → ¬ M b → w'.heap[b]? = w.heap[b]?
  shape : ∀ (b : Nat) (C : Array Value) (t : TypeId) (fr : Nat × Nat), w.heap[b]? = some (.cells C t fr) → ∃ (C' : Array Value) (fr' : Nat × Nat), w'.heap[b]? = some (.cells C' t fr') ∧ C'.size = C.size

theorem Keep.refl (M : Nat → Prop) (w : World) : Keep M w w := ⟨rfl, rfl, rfl, Nat.le_refl _, fun _ _ _ => rfl, fun _ C _ fr h => ⟨C, fr, h, rfl⟩⟩

theorem Keep.trans {M : Nat → Prop} {a b c : World} (h : Keep M a b) (k : Keep M b c) : Keep M a c where
  os := k.os.trans h.os
  tape := k.tape.trans h.tape
  output := k.output.trans h.output
  size := Nat.le_trans h.size k.size
  block := fun i hi hm => (k.block i (Nat.lt_of_lt_of_le hi h.size) hm).trans (h.block i hi hm)
  shape := fun i C t fr hc => by
    obtain ⟨C1, f1, h1, e1⟩ := h.shape i C t fr hc
    obtain ⟨C2, f2, h2, e2⟩ := k.shape i C1 t f1 h1
    exact ⟨C2, f2, h2, e2.trans e1⟩

theorem Keep.mono {M M' : Nat → Prop} {a b : World} (h : Keep M a b) (hm : ∀ i, i < a.heap.size → M i → M' i) : Keep M' a b :=
  ⟨h.os, h.tape, h.output, h.size, fun i hi hn => h.block i hi fun hx => hn (hm i hi hx), h.shape⟩

theorem cell_of_heap {w w' : World} {a : Addr} (h : w'.heap[a.block]? = w.heap[a.block]?) : w'.cell? a = w.cell? a := by
  unfold World.cell?; rw [h]

variable {ρ : Nat → Value}

/-- What is by content stays so, where its blocks stay as they are. -/
theorem RepP.later {w w' : World} {L L' : Nat → Prop} {q : V} {v : Value} (h : RepP ρ w L q v) (hsize : w.heap.size ≤ w'.heap.size)
    (hblock : ∀ b, b < w.heap.size → ¬ L b → w'.heap[b]? = w.heap[b]?) (hL' : ∀ b, b < w.heap.size → ¬ L b → ¬ L' b) : RepP ρ w' L' q v := by
  induction h with
  | un v => exact .un v
  | sym i => exact .sym i
  | sc v => exact .sc v
  | int k n => exact .int k n
  | bool b => exact .bool b
  | ps len n h => exact .ps len n h
  | nil s => exact .nil s
  | ro s rows b o cap val hL hb hc hr hcell hrep ih =>
    exact .ro s rows b o cap val (hL' b hb hL) (Nat.lt_of_lt_of_le hb hsize) hc hr
      (fun r row h1 c q h2 => by rw [cell_of_heap (w := w) (hblock b hb hL)]; exact hcell r row h1 c q h2) (fun r row h1 c q h2 => ih r row h1 c q h2)
  | pro cells b o val hL hb hone hcell hrep ih =>
    exact .pro cells b o val (hL' b hb hL) (Nat.lt_of_lt_of_le hb hsize) hone (fun c q h2 => by rw [cell_of_heap (w := w) (hblock b hb hL)]; exact hcell c q h2) (fun c q h2 => ih c q h2)

theorem Rep.later {w w' : World} {L L' : Nat → Prop} {T T' : Tab} {q : V} {v : Value} (h : Rep ρ w L T q v) (hsize : w.heap.size ≤ w'.heap.size)
    (hblock : ∀ b, b < w.heap.size → ¬ L b → w'.heap[b]? = w.heap[b]?) (hL' : ∀ b, b < w.heap.size → ¬ L b → ¬ L' b)
    (hshape : ∀ (b : Nat) (C : Array Value) (t : TypeId) (fr : Nat × Nat), w.heap[b]? = some (.cells C t fr) → ∃ (C' : Array Value) (fr' : Nat × Nat), w'.heap[b]? = some (.cells C' t fr') ∧ C'.size = C.size)
    (hT : ∀ (k : Nat) (p : Pl), T k = some p → T' k = some p) : Rep ρ w' L' T' q v := by
  induction h with
  | pure h => exact .pure (h.later hsize hblock hL')
  | ptr k r c p h => exact .ptr k r c p (hT _ _ h)
  | sl k off len full p at_ cap h ha hc hf hroom =>
    obtain ⟨C, t, fr, h1, h2⟩ := hroom
    obtain ⟨C', fr', h1', e⟩ := hshape p.b C t fr h1
    exact .sl k off len full p at_ cap (hT _ _ h) ha hc hf ⟨C', t, fr', h1', by omega⟩
  | fn f l vs hs h ih => exact .fn f l vs hs ih
  | ifc t q v h ih => exact .ifc t q v ih
  | agg l vs hs h ih => exact .agg l vs hs ih
  | tup l vs hs h ih => exact .tup l vs hs ih

theorem Rep.congr {w : World} {L L' : Nat → Prop} {T : Tab} {q : V} {v : Value} (h : Rep ρ w L T q v) (hL : ∀ b, L' b → L b) : Rep ρ w L' T q v :=
  h.later (Nat.le_refl _) (fun _ _ _ => rfl) (fun b _ hn hl => hn (hL b hl)) (fun _ C _ fr hc => ⟨C, fr, hc, rfl⟩) (fun _ _ h => h)

section inversions
variable {w : World} {L : Nat → Prop} {T : Tab} {x : Value}

theorem rep_un {v : Value} : Rep ρ w L T .un v := .pure (.un v)

theorem rep_sc {v : Value} (h : Rep ρ w L T (.sc v) x) : x = v := by
  cases h with
  | pure h => cases h; rfl

theorem rep_int {k : IntKind} {n : Int} (h : Rep ρ w L T (.int k n) x) : x = .int k n := by
  cases h with
  | pure h => cases h; rfl

theorem rep_bool {b : Bool} (h : Rep ρ w L T (.bool b) x) : x = .bool b := by
  cases h with
  | pure h => cases h; rfl

theorem rep_ps {len n : Nat} (h : Rep ρ w L T (.ps len n) x) : x = .string (unpack len n) ∧ n < 256 ^ len := by
  cases h with
  | pure h => cases h with
    | ps _ _ h => exact ⟨rfl, h⟩

theorem rep_ptr {k r c : Nat} (h : Rep ρ w L T (.ptr k r c) x) : ∃ p, T k = some p ∧ x = .pointer (some ⟨p.b, p.o + (r * p.s + c), none⟩) := by
  cases h with
  | pure h => cases h
  | ptr _ _ _ p h => exact ⟨p, h, rfl⟩

theorem rep_sl {k off len : Nat} {full : Bool} (h : Rep ρ w L T (.sl k off len full) x) : ∃ p at_ cap, T k = some p ∧ (len = 0 ∨ at_ = p.o + off * p.s) ∧ len ≤ cap ∧ (full = true → cap = len) ∧
    (∃ C t fr, w.heap[p.b]? = some (.cells C t fr) ∧ at_ + cap * p.s ≤ C.size) ∧ x = .slice (some ⟨p.b, at_, none⟩) len cap := by
  cases h with
  | pure h => cases h
  | sl _ _ _ _ p at_ cap h ha hc hf hr => exact ⟨p, at_, cap, h, ha, hc, hf, hr, rfl⟩

theorem rep_fn {f : FuncId} {l : List V} (h : Rep ρ w L T (.fn f l) x) : ∃ vs : Array Value, x = .func (.func f) #[] vs ∧ vs.size = l.length ∧
    ∀ (i : Nat) (q : V), l[i]? = some q → Rep ρ w L T q (vs.getD i undef) := by
  cases h with
  | pure h => cases h
  | fn _ _ vs hs h => exact ⟨vs, rfl, hs, h⟩

theorem rep_ifc {t : TypeId} {q : V} (h : Rep ρ w L T (.ifc t q) x) : ∃ v, x = .iface t v ∧ Rep ρ w L T q v := by
  cases h with
  | pure h => cases h
  | ifc _ _ v h => exact ⟨v, rfl, h⟩

theorem rep_agg {l : List V} (h : Rep ρ w L T (.agg l) x) : ∃ vs : Array Value, x = .agg vs ∧ vs.size = l.length ∧
    ∀ (i : Nat) (q : V), l[i]? = some q → Rep ρ w L T q (vs.getD i undef) := by
  cases h with
  | pure h => cases h
  | agg _ vs hs h => exact ⟨vs, rfl, hs, h⟩

theorem rep_tup {l : List V} (h : Rep ρ w L T (.tup l) x) : ∃ vs : Array Value, x = .tuple vs ∧ vs.size = l.length ∧
    ∀ (i : Nat) (q : V), l[i]? = some q → Rep ρ w L T q (vs.getD i undef) := by
  cases h with
  | pure h => cases h
  | tup _ vs hs h => exact ⟨vs, rfl, hs, h⟩

theorem rep_pro {cells : List V} (h : Rep ρ w L T (.pro cells) x) : ∃ (b o : Nat) (val : Nat → Value), x = .pointer (some ⟨b, o, none⟩) ∧ ¬ L b ∧ b < w.heap.size ∧ (∀ q ∈ cells, q.one = true) ∧
    (∀ (c : Nat) (q : V), cells[c]? = some q → w.cell? ⟨b, o + c, none⟩ = some (val c)) ∧ (∀ (c : Nat) (q : V), cells[c]? = some q → RepP ρ w L q (val c)) := by
  cases h with
  | pure h => cases h with
    | pro _ b o val h1 h2 h3 h4 h5 => exact ⟨b, o, val, rfl, h1, h2, h3, h4, h5⟩

/-- A slice that nobody writes: nil, or rows in a block. -/
theorem rep_ro {s : Nat} {rows : List (List V)} (h : Rep ρ w L T (.ro s rows) x) :
    (x = .slice none 0 0 ∧ rows = []) ∨ ∃ (b o cap : Nat) (val : Nat → Nat → Value), x = .slice (some ⟨b, o, none⟩) rows.length cap ∧ ¬ L b ∧ b < w.heap.size ∧ rows.length ≤ cap ∧ (∀ row ∈ rows, row.length = s ∧ ∀ q ∈ row, q.one = true) ∧
    (∀ (r : Nat) (row : List V), rows[r]? = some row → ∀ (c : Nat) (q : V), row[c]? = some q → w.cell? ⟨b, o + (r * s + c), none⟩ = some (val r c)) ∧
    (∀ (r : Nat) (row : List V), rows[r]? = some row → ∀ (c : Nat) (q : V), row[c]? = some q → RepP ρ w L q (val r c)) := by
  cases h with
  | pure h => cases h with
    | nil => exact .inl ⟨rfl, rfl⟩
    | ro _ _ b o cap val h1 h2 h3 h4 h5 h6 => exact .inr ⟨b, o, cap, val, rfl, h1, h2, h3, h4, h5, h6⟩
end inversions

/-! ### Packed texts -/

theorem bytesL_length : ∀ (l n : Nat), (bytesL l n).length = l
  | 0, _ => rfl
  | l + 1, n => by simp [bytesL, bytesL_length l]

theorem bytesL_get : ∀ (l n i : Nat), i < l → (bytesL l n)[i]? = some (UInt8.ofNat (n / 256 ^ i % 256))
  | 0, n, i, h => by omega
  | l + 1, n, 0, _ => by simp [bytesL]
  | l + 1, n, i + 1, h => by
    simp only [bytesL, List.getElem?_cons_succ]
    rw [bytesL_get l (n / 256) i (by omega), Nat.div_div_eq_div_mul, Nat.pow_succ, Nat.mul_comm 256]

theorem bytesL_append : ∀ (a b m n : Nat), m < 256 ^ a → bytesL (a + b) (m + n * 256 ^ a) = bytesL a m ++ bytesL b n
  | 0, b, m, n, h => by
    have : m = 0 := by simpa using h
    subst this
    simp [bytesL]
  | a + 1, b, m, n, h => by
    rw [show a + 1 + b = (a + b) + 1 by omega]
    simp only [bytesL, List.cons_append]
    have e1 : (m + n * 256 ^ (a + 1)) % 256 = m % 256 := by
      rw [Nat.pow_succ, ← Nat.mul_assoc, Nat.add_mul_mod_self_right]
    have e2 : (m + n * 256 ^ (a + 1)) / 256 = m / 256 + n * 256 ^ a := by
      rw [Nat.pow_succ, ← Nat.mul_assoc, Nat.add_mul_div_right _ _ (by omega : 0 < 256)]
    rw [e1, e2, bytesL_append a b (m / 256) n (by rw [Nat.pow_succ] at h; omega)]

theorem bytesL_drop : ∀ (k l n : Nat), (bytesL l n).drop k = bytesL (l - k) (n / 256 ^ k)
  | 0, l, n => by simp
  | k + 1, 0, n => by rw [show 0 - (k + 1) = 0 by omega]; rfl
  | k + 1, l + 1, n => by
    simp only [bytesL, List.drop_succ_cons]
    rw [bytesL_drop k l (n / 256), Nat.div_div_eq_div_mul, Nat.pow_succ, Nat.mul_comm 256]
    congr 1
    omega

theorem bytesL_take : ∀ (k l n : Nat), k ≤ l → (bytesL l n).take k = bytesL k (n % 256 ^ k)
  | 0, l, n, _ => by simp [bytesL]
  | k + 1, 0, n, h => by omega
  | k + 1, l + 1, n, h => by
    simp only [bytesL, List.take_succ_cons]
    rw [bytesL_take k l (n / 256) (by omega)]
    have e1 : n % 256 ^ (k + 1) % 256 = n % 256 := Nat.mod_mod_of_dvd _ (by rw [Nat.pow_succ]; exact Nat.dvd_mul_left _ _)
    have e2 : n % 256 ^ (k + 1) / 256 = n / 256 % 256 ^ k := by
      rw [Nat.pow_succ, Nat.mul_comm (256 ^ k), Nat.mod_mul, Nat.add_mul_div_left _ _ (by omega : 0 < 256), Nat.div_eq_of_lt (Nat.mod_lt _ (by omega)), Nat.zero_add]
    rw [e1, e2]

theorem bytesL_inj : ∀ (l m n : Nat), m < 256 ^ l → n < 256 ^ l → bytesL l m = bytesL l n → m = n
  | 0, m, n, hm, hn, _ => by simp at hm hn; omega
  | l + 1, m, n, hm, hn, h => by
    simp only [bytesL, List.cons.injEq] at h
    have h1 : m % 256 = n % 256 := by
      have := congrArg UInt8.toNat h.1
      simpa using this
    have h2 := bytesL_inj l (m / 256) (n / 256) (by rw [Nat.pow_succ] at hm; omega) (by rw [Nat.pow_succ] at hn; omega) h.2
    omega

theorem packL_lt : ∀ l : List UInt8, packL l < 256 ^ l.length
  | [] => by simp [packL]
  | b :: l => by
    have h1 := packL_lt l
    have h2 : b.toNat < 256 := b.toNat_lt
    simp only [packL, List.length_cons, Nat.pow_succ]
    omega

theorem bytesL_packL : ∀ l : List UInt8, bytesL l.length (packL l) = l
  | [] => rfl
  | b :: l => by
    have h2 : b.toNat < 256 := b.toNat_lt
    simp only [packL, List.length_cons, bytesL]
    have e1 : (b.toNat + 256 * packL l) % 256 = b.toNat := by omega
    have e2 : (b.toNat + 256 * packL l) / 256 = packL l := by omega
    rw [e1, e2, bytesL_packL l]
    simp

theorem unpack_packL (s : ByteArray) : unpack s.size (packL s.data.toList) = s := by
  have : s.size = s.data.toList.length := (Array.length_toList).symm
  unfold unpack
  rw [this, bytesL_packL]

theorem unpack_size (len n : Nat) : (unpack len n).size = len := by
  show (bytesL len n).toArray.size = len
  rw [List.size_toArray, bytesL_length]

/-! ### Values of the text -/

theorem repP_cv {ρ : Nat → Value} (w : World) (L : Nat → Prop) (v : Value) : RepP ρ w L (cv v) v := by
  cases v with
  | int k n => exact .int k n
  | bool b => exact .bool b
  | string s =>
    have h := RepP.ps (ρ := ρ) (w := w) (L := L) s.size (packL s.data.toList) (by
      have := packL_lt s.data.toList
      rwa [Array.length_toList] at this)
    rw [unpack_packL] at h
    exact h
  | _ => exact .sc _

theorem rep_cv {ρ : Nat → Value} (w : World) (L : Nat → Prop) (T : Tab) (v : Value) : Rep ρ w L T (cv v) v := .pure (repP_cv w L v)

theorem Globs.rep {ρ : Nat → Value} {w : World} {L : Nat → Prop} (h : Globs w L) {g : Nat} {vs : List Value} (hg : gdat g = some vs) : RepP ρ w L (.pro (vs.map cv)) (.pointer (some ⟨g, 0, none⟩)) := by
  obtain ⟨h1, h2, h3⟩ := h g vs hg
  refine .pro _ g 0 (fun c => (vs[c]?).getD undef) h1 h2 (fun q hq => ?_) (fun c q hq => ?_) (fun c q hq => ?_)
  · obtain ⟨v, hv, rfl⟩ := List.mem_map.mp hq
    obtain ⟨i, hi, rfl⟩ := List.mem_iff_getElem.mp hv
    exact (h3 i _ (List.getElem?_eq_getElem hi)).1
  · rw [List.getElem?_map] at hq
    obtain ⟨v, hv, rfl⟩ := Option.map_eq_some_iff.mp hq
    rw [Nat.zero_add, (h3 c v hv).2, hv]
    rfl
  · rw [List.getElem?_map] at hq
    obtain ⟨v, hv, rfl⟩ := Option.map_eq_some_iff.mp hq
    rw [hv]
    exact repP_cv w L v

end Go.Proofs.YtjljgldgkkfckaaDoor.M
