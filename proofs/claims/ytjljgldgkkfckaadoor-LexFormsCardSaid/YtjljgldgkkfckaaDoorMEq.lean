/- Quiet operations, as the kernel runs them. -/
import Derived.Test.YtjljgldgkkfckaaDoorMVal
namespace Go.Proofs.YtjljgldgkkfckaaDoor.M
open Go Go.RowKit
set_option linter.unusedSimpArgs false
set_option linter.unusedVariables false

variable {ρ : Nat → Value} {P : Program}

/-! ### Types -/

def tiOf (P : Program) (t : TypeId) : Option TI := match shOf P t, P.info? t with
  | some sh, some i => match i.zero with
    | some z => some ⟨i.size, sh, z.cells.toList⟩
    | none => none
  | _, _ => none

theorem tiOf_ok {t : TypeId} {ti : TI} (h : tiOf P t = some ti) : TyOK P t ti := by
  unfold tiOf at h
  split at h
  · rename_i sh i hs hi
    split at h
    · rename_i z hz
      cases h
      exact ⟨hs, by rw [hi]; rfl, by rw [hi]; simp [hz]⟩
    · cases h
  · cases h

/-- A slice's elements: type, cells, bytes, noughts. -/
structure El where
  e : TypeId
  es : Nat
  eb : Nat
  z : List V

def elOf (P : Program) (t : TypeId) : Option El := match tiOf P t with
  | some ⟨_, .slice e es eb, _⟩ => match tiOf P e with
    | some te => match Nat.beq te.zero.length es, Nat.ble 1 es with
      | true, true => some ⟨e, es, eb, te.zero.map cv⟩
      | _, _ => none
    | none => none
  | _ => none

theorem elOf_ok {t : TypeId} {el : El} (h : elOf P t = some el) : ElOK P t el.e el.es el.eb ∧ 0 < el.es ∧ (∃ ti, TyOK P t ti ∧ ti.sh = .slice el.e el.es el.eb) ∧ ∃ te, TyOK P el.e te ∧ te.zero.map cv = el.z := by
  unfold elOf at h
  split at h
  · rename_i a e es eb z hti
    have ht := tiOf_ok hti
    split at h
    · rename_i te hte
      have he := tiOf_ok hte
      split at h
      · rename_i h1 h2
        cases h
        exact ⟨ElOK.of ht rfl he (Nat.eq_of_beq_eq_true h1), Nat.le_of_ble_eq_true h2, ⟨_, ht, rfl⟩, te, he, rfl⟩
      · cases h
    · cases h
  · cases h

/-! ### The form -/

@[reducible] def HsT : Type := List (Nat × PC)

structure QOp where
  run : Tm → Hp → HsT → (V → HsT → Ans) → Ans

def qbad (n : Nat) : QOp := ⟨fun _ _ _ _ => .err n⟩

/-- What is to be shown of it: i is its number in the region. -/
def QSpec (ρ : Nat → Value) (P : Program) (i : Nat) (o : Oper) (q : QOp) : Prop :=
  ∀ (fr : Fr) (tm : Tm) (hp : Hp) (nx : Nat) (hs : HsT) (k : V → HsT → Ans), q.run tm hp hs k = .ok →
    ∃ (v : V) (es : List PC), k v (es.map (fun e => (i, e)) ++ hs) = .ok ∧ QQ ρ P (absS fr tm hp nx) (inL es) o v

theorem qspec_bad {i n : Nat} {o : Oper} : QSpec ρ P i o (qbad n) := fun _ _ _ _ _ _ h => Ans.no h

theorem qspec_of {i : Nat} {o : Oper} {q : QOp} (h : ∀ (fr : Fr) (tm : Tm) (hp : Hp) (nx : Nat) (hs : HsT) (k : V → HsT → Ans), q.run tm hp hs k = .ok → ∃ v, k v hs = .ok ∧ ∀ C, QQ ρ P (absS fr tm hp nx) C o v) : QSpec ρ P i o q :=
  fun fr tm hp nx hs k hr => by
    obtain ⟨v, h1, h2⟩ := h fr tm hp nx hs k hr
    exact ⟨v, [], h1, h2 _⟩

noncomputable def q1 (x : Operand) (f : V → Hp → HsT → (V → HsT → Ans) → Ans) : QOp := ⟨fun tm hp hs k => (opd x).get tm fun v => f v hp hs k⟩
noncomputable def q2 (x y : Operand) (f : V → V → Hp → HsT → (V → HsT → Ans) → Ans) : QOp := ⟨fun tm hp hs k => (opd x).get tm fun v => (opd y).get tm fun u => f v u hp hs k⟩

theorem q1_spec {i : Nat} {o : Oper} {x : Operand} {f : V → Hp → HsT → (V → HsT → Ans) → Ans}
    (h : ∀ (fr : Fr) (tm : Tm) (hp : Hp) (nx : Nat) (hs : HsT) (k : V → HsT → Ans) (vx : V), evalV (absS fr tm hp nx) x = vx → f vx hp hs k = .ok → ∃ v, k v hs = .ok ∧ ∀ C, QQ ρ P (absS fr tm hp nx) C o v) : QSpec ρ P i o (q1 x f) :=
  qspec_of fun fr tm hp nx hs k hr => h fr tm hp nx hs k _ rfl (opd_inv (k := fun v => f v hp hs k) hr fr hp nx)

theorem q2_spec {i : Nat} {o : Oper} {x y : Operand} {f : V → V → Hp → HsT → (V → HsT → Ans) → Ans}
    (h : ∀ (fr : Fr) (tm : Tm) (hp : Hp) (nx : Nat) (hs : HsT) (k : V → HsT → Ans) (vx vy : V), evalV (absS fr tm hp nx) x = vx → evalV (absS fr tm hp nx) y = vy → f vx vy hp hs k = .ok → ∃ v, k v hs = .ok ∧ ∀ C, QQ ρ P (absS fr tm hp nx) C o v) : QSpec ρ P i o (q2 x y f) :=
  qspec_of fun fr tm hp nx hs k hr => h fr tm hp nx hs k _ _ rfl rfl (opd_inv (k := fun u => f _ u hp hs k) (opd_inv (k := fun v => (opd y).get tm fun u => f v u hp hs k) hr fr hp nx) fr hp nx)

/-! ### Moves -/

noncomputable def qMove (x : Operand) : QOp := q1 x fun v _ hs k => k v hs
theorem qMove_spec {i : Nat} {o : Oper} {x : Operand} (ho : o.op = .move x ∨ o.op = .assign x) : QSpec ρ P i o (qMove x) :=
  q1_spec fun fr tm hp nx hs k vx hx h => ⟨vx, h, fun C => hx ▸ qq_move ho⟩

noncomputable def qPick (c x y : Operand) : QOp := ⟨fun tm hp hs k => (opd c).get tm fun b => b.onBool fun b => boolK b ((opd x).get tm fun v => k v hs) ((opd y).get tm fun v => k v hs)⟩
theorem qPick_spec {i : Nat} {o : Oper} {c x y : Operand} (ho : o.op = .pick c x y) : QSpec ρ P i o (qPick c x y) :=
  qspec_of fun fr tm hp nx hs k h => by
    have h := opd_inv (k := fun b => b.onBool fun b => boolK b ((opd x).get tm fun v => k v hs) ((opd y).get tm fun v => k v hs)) h fr hp nx
    obtain ⟨b, hb, h⟩ := V.onBool_inv h
    rcases boolK_inv h with ⟨rfl, h⟩ | ⟨rfl, h⟩
    · exact ⟨_, opd_inv (k := fun v => k v hs) h fr hp nx, fun C => qq_pick ho hb⟩
    · exact ⟨_, opd_inv (k := fun v => k v hs) h fr hp nx, fun C => qq_pick ho hb⟩

def isPtrV : Value → Bool
  | .pointer (some _) => true
  | _ => false

noncomputable def qNil (x : Operand) : QOp := q1 x fun v _ hs k => v.onThere (fun _ _ _ => k v hs) (fun _ => k v hs) (fun _ _ => k v hs) (fun u => must (isPtrV u) (k v hs))
theorem qNil_spec {i : Nat} {o : Oper} {x : Operand} (ho : o.op = .nilCheck x) : QSpec ρ P i o (qNil x) :=
  q1_spec fun fr tm hp nx hs k vx hx h => by
    rcases V.onThere_inv h with ⟨_, _, _, rfl, h⟩ | ⟨_, rfl, h⟩ | ⟨_, _, rfl, h⟩ | ⟨u, rfl, h⟩
    · exact ⟨_, h, fun C => qq_nilCheck ho hx rfl⟩
    · exact ⟨_, h, fun C => qq_nilCheck ho hx rfl⟩
    · exact ⟨_, h, fun C => qq_nilCheck ho hx rfl⟩
    · obtain ⟨h1, h⟩ := must_inv h
      refine ⟨_, h, fun C => qq_nilCheck ho hx ?_⟩
      unfold isPtrV at h1
      split at h1
      · rfl
      · cases h1

noncomputable def qExtract (x : Operand) (j : Nat) : QOp := q1 x fun v _ hs k => v.onTup fun l => (nth j).get l fun q => k q hs
theorem qExtract_spec {i : Nat} {o : Oper} {x : Operand} {j : Nat} (ho : o.op = .extract x j) : QSpec ρ P i o (qExtract x j) :=
  q1_spec fun fr tm hp nx hs k vx hx h => by
    obtain ⟨l, rfl, h⟩ := V.onTup_inv h
    obtain ⟨q, h1, h⟩ := nth_inv h
    exact ⟨q, h, fun C => qq_extract ho hx h1⟩

noncomputable def qNot (x : Operand) : QOp := q1 x fun v _ hs k => v.onBool fun b => boolK b (k (.bool false) hs) (k (.bool true) hs)
theorem qNot_spec {i : Nat} {o : Oper} {x : Operand} {t : TypeId} (ho : o.op = .unOp .not t x) : QSpec ρ P i o (qNot x) :=
  q1_spec fun fr tm hp nx hs k vx hx h => by
    obtain ⟨b, rfl, h⟩ := V.onBool_inv h
    rcases boolK_inv h with ⟨rfl, h⟩ | ⟨rfl, h⟩
    · exact ⟨_, h, fun C => qq_not ho hx⟩
    · exact ⟨_, h, fun C => qq_not ho hx⟩

/-- Operands, all of them. -/
structure Opds where
  get : Tm → (List V → Ans) → Ans
noncomputable def opds (xs : List Operand) : Opds := List.rec (motive := fun _ => Opds) ⟨fun _ k => k []⟩ (fun x _ ih => ⟨fun tm k => (opd x).get tm fun v => ih.get tm fun l => k (v :: l)⟩) xs
theorem opds_inv : ∀ {xs : List Operand} {tm : Tm} {k : List V → Ans} (h : (opds xs).get tm k = .ok) (fr : Fr) (hp : Hp) (nx : Nat), k (evalL (absS fr tm hp nx) xs) = .ok
  | [], _, _, h, _, _, _ => h
  | x :: xs, tm, k, h, fr, hp, nx => opds_inv (xs := xs) (k := fun l => k (_ :: l)) (opd_inv (k := fun v => (opds xs).get tm fun l => k (v :: l)) h fr hp nx) fr hp nx

noncomputable def qFn (f : FuncId) (caps : List Operand) : QOp := ⟨fun tm _ hs k => (opds caps).get tm fun l => k (.fn f l) hs⟩
theorem qFn_spec {i : Nat} {o : Oper} {f : FuncId} {caps : Array Operand} (ho : o.op = .makeFunc (.func f) #[] caps) : QSpec ρ P i o (qFn f caps.toList) :=
  qspec_of fun fr tm hp nx hs k h => ⟨_, opds_inv (k := fun l => k (.fn f l) hs) h fr hp nx, fun C => qq_makeFunc ho⟩

/-! ### Fields, cells -/

/-- A struct's field: where it begins, how many cells, whether a struct itself. -/
def fieldOf (P : Program) (t : TypeId) (i : Nat) : Option (Nat × Nat × Bool) := match tiOf P t with
  | some ⟨_, .struct fs, _⟩ => match fs[i]? with
    | some (off, n, g) => match Nat.ble 1 n with
      | true => some (off, n, g)
      | false => none
    | none => none
  | _ => none

theorem fieldOf_ok {t : TypeId} {i off n : Nat} {g : Bool} (h : fieldOf P t i = some (off, n, g)) : ∃ ti fs, TyOK P t ti ∧ ti.sh = .struct fs ∧ fs[i]? = some (off, n, g) ∧ n ≠ 0 := by
  unfold fieldOf at h
  split at h
  · rename_i a fs z hti
    split at h
    · rename_i off' n' g' hfs
      split at h
      · rename_i hn
        cases h
        exact ⟨_, fs, tiOf_ok hti, rfl, hfs, by have := Nat.le_of_ble_eq_true hn; omega⟩
      · cases h
    · cases h
  · cases h

/-- So much further. -/
structure Off where
  run : Nat → (Nat → Ans) → Ans
noncomputable def offN (off : Nat) : Off := Nat.rec (motive := fun _ => Off) ⟨fun c k => k c⟩ (fun n _ => ⟨fun c k => forceN (Nat.add c (Nat.succ n)) k⟩) off
theorem offN_inv {off c : Nat} {k : Nat → Ans} (h : (offN off).run c k = .ok) : k (c + off) = .ok := by
  cases off with
  | zero => exact h
  | succ n =>
    have h : forceN (Nat.add c (Nat.succ n)) k = .ok := h
    rwa [forceN_eq] at h

noncomputable def qFieldAddr (P : Program) (t : TypeId) (x : Operand) (j : Nat) : QOp := match fieldOf P t j with
  | some (off, _, _) => q1 x fun v _ hs k => v.onAd (fun i r c => (offN off).run c fun c' => k (.ptr i r c') hs) (fun cells => (dropN off).run cells fun l => k (.pro l) hs)
  | none => qbad 101
theorem qFieldAddr_spec {i : Nat} {o : Oper} {x : Operand} {t : TypeId} {j : Nat} (ho : o.op = .fieldAddr t x j) : QSpec ρ P i o (qFieldAddr P t x j) := by
  unfold qFieldAddr
  split
  · rename_i off n g hf
    obtain ⟨ti, fs, h1, h2, h3, h4⟩ := fieldOf_ok hf
    exact q1_spec fun fr tm hp nx hs k vx hx h => by
      rcases V.onAd_inv h with ⟨i, r, c, rfl, h⟩ | ⟨cells, rfl, h⟩
      · exact ⟨_, offN_inv (k := fun c' => k (.ptr i r c') hs) h, fun C => qq_fieldAddr_ptr ho hx h1 h2 h3 h4⟩
      · exact ⟨_, dropN_inv (k := fun l => k (.pro l) hs) h, fun C => qq_fieldAddr_pro ho hx h1 h2 h3 h4⟩
  · exact qspec_bad

/-- A row of a list. -/
noncomputable def rowAt (rows : List (List V)) : Nat → (List V → Ans) → Ans :=
  List.rec (motive := fun _ => Nat → (List V → Ans) → Ans) (fun _ _ => .err 53) (fun row _ ih i k => Nat.rec (motive := fun _ => AnsT) (k row) (fun j _ => ih j k) i) rows
theorem rowAt_inv : ∀ {rows : List (List V)} {i : Nat} {k : List V → Ans}, rowAt rows i k = .ok → ∃ row, rows[i]? = some row ∧ k row = .ok
  | [], _, _, h => Ans.no h
  | row :: rows, 0, _, h => ⟨row, rfl, h⟩
  | row :: rows, i + 1, k, h => rowAt_inv (rows := rows) (i := i) (k := k) h

/-- A row of an object. -/
noncomputable def KOb.row (ob : KOb) (r : Nat) (k : List V → Ans) : Ans :=
  KOb.rec (motive := fun _ => AnsT) (.err 50) (fun row => Nat.rec (motive := fun _ => AnsT) (k row) (fun _ _ => .err 51) r) (fun _ n t => must (Nat.ble (Nat.succ r) n) ((acc (List V) r).get t k)) (fun _ n t => must (Nat.ble (Nat.succ r) n) ((acc3 (List V) r).get t k)) (fun _ rows => rowAt rows r k) ob

theorem KOb.row_inv {ob : KOb} {r : Nat} {k : List V → Ans} (h : ob.row r k = .ok) : ∃ x row, absK ob = some x ∧ x.row r = some row ∧ k row = .ok := by
  cases ob with
  | no => exact Ans.no h
  | cell row =>
    cases r with
    | zero => exact ⟨_, row, rfl, rfl, h⟩
    | succ r => exact Ans.no h
  | a1 s n t =>
    obtain ⟨h1, h⟩ := must_inv h
    obtain ⟨h2, h⟩ := acc_get h
    have h1 : r < n := Nat.le_of_ble_eq_true h1
    refine ⟨_, _, rfl, ?_, h⟩
    show (if r < n then (if r < 16 then some (t.get r) else none) else none) = _
    rw [if_pos h1, if_pos h2]
  | a3 s n t =>
    obtain ⟨h1, h⟩ := must_inv h
    obtain ⟨h2, h⟩ := acc3_get h
    have h1 : r < n := Nat.le_of_ble_eq_true h1
    refine ⟨_, _, rfl, ?_, h⟩
    show (if r < n then (if r < 4096 then some (get3 t r) else none) else none) = _
    rw [if_pos h1, if_pos h2]
  | ls s rows =>
    obtain ⟨row, h1, h⟩ := rowAt_inv (rows := rows) (i := r) (k := k) h
    exact ⟨_, row, rfl, h1, h⟩

theorem ob_inv {hp : Hp} {j : Nat} {k : KOb → Ans} (h : (acc4 KOb j).get hp k = .ok) : ∃ ob, absO hp j = absK ob ∧ k ob = .ok := by
  obtain ⟨h1, h2⟩ := acc4_get h
  refine ⟨_, ?_, h2⟩
  unfold absO
  rw [if_pos h1]

noncomputable def qLoad (P : Program) (i : Nat) (t : TypeId) (x : Operand) : QOp := match tiOf P t with
  | some ⟨_, .struct _, z⟩ => match tiOf P t with
    | some ti => q1 x fun v hp hs k => v.onAd (fun j r c => (acc4 KOb j).get hp fun ob => ob.row r fun row => (dropN c).run row fun l => (takeN ti.size).run l fun l => k (.agg l) ((i, ⟨j, r, 1, c, ti.size⟩) :: hs)) (fun cells => (takeN ti.size).run cells fun l => k (.agg l) hs)
    | none => qbad 102
  | some _ => q1 x fun v hp hs k => v.onAd (fun j r c => (acc4 KOb j).get hp fun ob => ob.row r fun row => (nth c).get row fun q => k q ((i, ⟨j, r, 1, c, 1⟩) :: hs)) (fun cells => (nth 0).get cells fun q => k q hs)
  | none => qbad 103

theorem qLoad_spec {i : Nat} {o : Oper} {x : Operand} {t : TypeId} (ho : o.op = .load t x) : QSpec ρ P i o (qLoad P i t x) := by
  unfold qLoad
  split
  · rename_i a fs z hti
    split
    · rename_i ti hti'
      have ht := tiOf_ok hti'
      have hag : ti.sh.agg = true := by
        rw [hti] at hti'
        cases hti'
        rfl
      intro fr tm hp nx hs k h
      have h := opd_inv (k := fun v => v.onAd (fun j r c => (acc4 KOb j).get hp fun ob => ob.row r fun row => (dropN c).run row fun l => (takeN ti.size).run l fun l => k (.agg l) ((i, ⟨j, r, 1, c, ti.size⟩) :: hs)) (fun cells => (takeN ti.size).run cells fun l => k (.agg l) hs)) h fr hp nx
      rcases V.onAd_inv h with ⟨j, r, c, hx, h⟩ | ⟨cells, hx, h⟩
      · obtain ⟨ob, h1, h⟩ := ob_inv h
        obtain ⟨y, row, h2, h3, h⟩ := KOb.row_inv h
        obtain ⟨h4, h⟩ := takeN_inv (dropN_inv h)
        exact ⟨_, [⟨j, r, 1, c, ti.size⟩], h, qq_load_agg ho hx ht hag (fun i hi => ⟨_, List.mem_cons_self, rfl, Nat.le_refl _, Nat.lt_succ_self _, Nat.le_add_right _ _, Nat.add_lt_add_left hi _⟩) (h1.trans h2) h3 rfl h4⟩
      · obtain ⟨h4, h⟩ := takeN_inv h
        exact ⟨_, [], h, qq_load_agg_pro ho hx ht hag rfl h4⟩
    · exact qspec_bad
  · rename_i ti hno hti
    have ht := tiOf_ok hti
    have hag : ti.sh.agg = false := by
      cases hs : ti.sh with
      | struct fs =>
        obtain ⟨a, sh, z⟩ := ti
        simp only at hs
        subst hs
        exact (hno _ _ _ rfl).elim
      | slice e es eb => rfl
      | string => rfl
      | int k => rfl
      | bool => rfl
      | other => rfl
    intro fr tm hp nx hs k h
    have h := opd_inv (k := fun v => v.onAd (fun j r c => (acc4 KOb j).get hp fun ob => ob.row r fun row => (nth c).get row fun q => k q ((i, ⟨j, r, 1, c, 1⟩) :: hs)) (fun cells => (nth 0).get cells fun q => k q hs)) h fr hp nx
    rcases V.onAd_inv h with ⟨j, r, c, hx, h⟩ | ⟨cells, hx, h⟩
    · obtain ⟨ob, h1, h⟩ := ob_inv h
      obtain ⟨y, row, h2, h3, h⟩ := KOb.row_inv h
      obtain ⟨q, h4, h⟩ := nth_inv h
      exact ⟨_, [⟨j, r, 1, c, 1⟩], h, qq_load_word ho hx ht hag ⟨_, List.mem_cons_self, rfl, Nat.le_refl _, Nat.lt_succ_self _, Nat.le_refl _, Nat.lt_succ_self _⟩ (h1.trans h2) h3 h4⟩
    · obtain ⟨q, h4, h⟩ := nth_inv h
      exact ⟨_, [], h, qq_load_word_pro ho hx ht hag h4⟩
  · exact qspec_bad

noncomputable def qField (P : Program) (t : TypeId) (x : Operand) (j : Nat) : QOp := match fieldOf P t j with
  | some (off, n, true) => q1 x fun v _ hs k => v.onAgg fun l => (dropN off).run l fun l => (takeN n).run l fun l => k (.agg l) hs
  | some (off, n, false) => q1 x fun v _ hs k => v.onAgg fun l => (nth off).get l fun q => k q hs
  | none => qbad 104
theorem qField_spec {i : Nat} {o : Oper} {x : Operand} {t : TypeId} {j : Nat} (ho : o.op = .field t x j) : QSpec ρ P i o (qField P t x j) := by
  unfold qField
  split
  · rename_i off n hf
    obtain ⟨ti, fs, h1, h2, h3, h4⟩ := fieldOf_ok hf
    exact q1_spec fun fr tm hp nx hs k vx hx h => by
      obtain ⟨l, rfl, h⟩ := V.onAgg_inv h
      obtain ⟨h5, h⟩ := takeN_inv (dropN_inv h)
      exact ⟨_, h, fun C => qq_field_agg ho hx h1 h2 h3 rfl h5⟩
  · rename_i off n hf
    obtain ⟨ti, fs, h1, h2, h3, h4⟩ := fieldOf_ok hf
    exact q1_spec fun fr tm hp nx hs k vx hx h => by
      obtain ⟨l, rfl, h⟩ := V.onAgg_inv h
      obtain ⟨q, h5, h⟩ := nth_inv h
      exact ⟨_, h, fun C => qq_field_word ho hx h1 h2 h3 h5⟩
  · exact qspec_bad

/-! ### Lengths, elements -/

def isNilSl : Value → Bool
  | .slice none 0 0 => true
  | _ => false
theorem isNilSl_ok {v : Value} (h : isNilSl v = true) : v = .slice none 0 0 := by
  unfold isNilSl at h
  split at h
  · rfl
  · cases h

noncomputable def qLen (P : Program) (x : Operand) (t : TypeId) : QOp := match tiOf P t with
  | some ⟨_, .slice _ _ _, _⟩ => q1 x fun v _ hs k => v.onLen (fun _ _ len _ => k (.int .i64 (.ofNat len)) hs) (fun _ rows => forceN rows.length fun n => k (.int .i64 (.ofNat n)) hs) (fun _ _ => .err 105) (fun u => must (isNilSl u) (k (.int .i64 (.ofNat 0)) hs))
  | some ⟨_, .string, _⟩ => q1 x fun v _ hs k => v.onLen (fun _ _ _ _ => .err 106) (fun _ _ => .err 106) (fun len _ => k (.int .i64 (.ofNat len)) hs) (fun _ => .err 106)
  | _ => qbad 107
theorem qLen_spec {i : Nat} {o : Oper} {x : Operand} {t : TypeId} (ho : isLen o x t) : QSpec ρ P i o (qLen P x t) := by
  unfold qLen
  split
  · rename_i a e es eb z hti
    have ht := tiOf_ok hti
    exact q1_spec fun fr tm hp nx hs k vx hx h => by
      rcases V.onLen_inv h with ⟨j, off, len, full, rfl, h⟩ | ⟨s, rows, rfl, h9⟩ | ⟨_, _, rfl, h⟩ | ⟨u, rfl, h⟩
      · exact ⟨_, h, fun C => qq_len_sl ho hx ht rfl⟩
      · rw [forceN_eq] at h9
        exact ⟨_, h9, fun C => qq_len_ro ho hx ht rfl⟩
      · exact Ans.no h
      · obtain ⟨h1, h⟩ := must_inv h
        have := isNilSl_ok h1
        subst this
        exact ⟨_, h, fun C => qq_len_nil ho hx ht rfl⟩
  · rename_i a z hti
    have ht := tiOf_ok hti
    exact q1_spec fun fr tm hp nx hs k vx hx h => by
      rcases V.onLen_inv h with ⟨j, off, len, full, rfl, h⟩ | ⟨s, rows, rfl, h⟩ | ⟨len, n, rfl, h⟩ | ⟨u, rfl, h⟩
      · exact Ans.no h
      · exact Ans.no h
      · exact ⟨_, h, fun C => qq_len_ps ho hx ht rfl⟩
      · exact Ans.no h
  · exact qspec_bad

/-- An object's cells to a row. -/
noncomputable def KOb.ofS (ob : KOb) (es : Nat) (y : Ans) : Ans :=
  KOb.rec (motive := fun _ => AnsT) (.err 52) (fun row => must (Nat.beq row.length es) y) (fun s _ _ => must (Nat.beq s es) y) (fun s _ _ => must (Nat.beq s es) y) (fun s _ => must (Nat.beq s es) y) ob
theorem KOb.ofS_inv {ob : KOb} {es : Nat} {y : Ans} (h : ob.ofS es y = .ok) : (∃ x, absK ob = some x ∧ x.s = es) ∧ y = .ok := by
  cases ob with
  | no => exact Ans.no h
  | cell row =>
    obtain ⟨h1, h⟩ := must_inv h
    exact ⟨⟨_, rfl, Nat.eq_of_beq_eq_true h1⟩, h⟩
  | a1 s n t =>
    obtain ⟨h1, h⟩ := must_inv h
    exact ⟨⟨_, rfl, Nat.eq_of_beq_eq_true h1⟩, h⟩
  | a3 s n t =>
    obtain ⟨h1, h⟩ := must_inv h
    exact ⟨⟨_, rfl, Nat.eq_of_beq_eq_true h1⟩, h⟩
  | ls s rows =>
    obtain ⟨h1, h⟩ := must_inv h
    exact ⟨⟨_, rfl, Nat.eq_of_beq_eq_true h1⟩, h⟩

noncomputable def qIndexAddr (P : Program) (t : TypeId) (x y : Operand) : QOp := match tiOf P t with
  | some ⟨_, .slice _ es _, _⟩ => q2 x y fun v u hp hs k => u.onInt fun _ n => onNat n fun i =>
      v.onRow (fun j off len _ => must (Nat.ble (Nat.succ i) len) ((acc4 KOb j).get hp fun ob => ob.ofS es ((offN off).run i fun r => k (.ptr j r 0) hs)))
        (fun s rows => must (Nat.beq s es) (rowAt rows i fun row => k (.pro row) hs))
  | _ => qbad 108
theorem qIndexAddr_spec {i : Nat} {o : Oper} {x y : Operand} {t : TypeId} (ho : o.op = .indexAddr t x y) : QSpec ρ P i o (qIndexAddr P t x y) := by
  unfold qIndexAddr
  split
  · rename_i a e es eb z hti
    have ht := tiOf_ok hti
    exact q2_spec fun fr tm hp nx hs k vx vy hx hy h => by
      obtain ⟨kd, n, rfl, h⟩ := V.onInt_inv h
      obtain ⟨i, rfl, h⟩ := onNat_inv h
      rcases V.onRow_inv h with ⟨j, off, len, full, rfl, h⟩ | ⟨s, rows, rfl, h⟩
      · obtain ⟨h1, h⟩ := must_inv h
        obtain ⟨ob, h2, h⟩ := ob_inv h
        obtain ⟨⟨y, h3, h4⟩, h⟩ := KOb.ofS_inv h
        have h := offN_inv h
        refine ⟨_, h, fun C => ?_⟩
        rw [Nat.add_comm]
        exact qq_indexAddr_sl ho hx hy ht rfl (h2.trans h3) h4 (Nat.le_of_ble_eq_true h1)
      · obtain ⟨h1, h⟩ := must_inv h
        obtain ⟨row, h2, h9⟩ := rowAt_inv h
        have := Nat.eq_of_beq_eq_true h1
        subst this
        exact ⟨_, h9, fun C => qq_indexAddr_ro ho hx hy ht rfl h2⟩
  · exact qspec_bad

noncomputable def qIndex (P : Program) (t : TypeId) (x y : Operand) : QOp := match tiOf P t with
  | some ⟨_, .string, _⟩ => q2 x y fun v u hp hs k => u.onInt fun _ n => onNat n fun i => v.onPs fun len n => must (Nat.ble (Nat.succ i) len) (forceN (Nat.mod (Nat.div n (Nat.pow 256 i)) 256) fun b => k (.int .u8 (.ofNat b)) hs)
  | _ => qbad 109
theorem qIndex_spec {i : Nat} {o : Oper} {x y : Operand} {t : TypeId} (ho : o.op = .index t x y) : QSpec ρ P i o (qIndex P t x y) := by
  unfold qIndex
  split
  · rename_i a z hti
    have ht := tiOf_ok hti
    exact q2_spec fun fr tm hp nx hs k vx vy hx hy h => by
      obtain ⟨kd, n, rfl, h⟩ := V.onInt_inv h
      obtain ⟨i, rfl, h⟩ := onNat_inv h
      obtain ⟨len, n, rfl, h⟩ := V.onPs_inv h
      obtain ⟨h1, h⟩ := must_inv h
      rw [forceN_eq] at h
      exact ⟨_, h, fun C => qq_index_ps ho hx hy ht rfl (Nat.le_of_ble_eq_true h1)⟩
  · exact qspec_bad

end Go.Proofs.YtjljgldgkkfckaaDoor.M
