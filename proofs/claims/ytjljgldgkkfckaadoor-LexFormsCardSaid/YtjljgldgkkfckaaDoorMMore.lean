/- More operations that only look: structs held against each other, conversions, values of interfaces, pieces of texts and slices, literals of structs. -/
import Derived.Test.YtjljgldgkkfckaaDoorMQuiet
import Derived.Laws.BytesString
import Derived.IntWalk
namespace Go.Proofs.YtjljgldgkkfckaaDoor.M
open Go Go.RowKit
set_option linter.unusedSimpArgs false
set_option linter.unusedVariables false

variable {ρ : Nat → Value}

section quiet
variable {P : Program} {σ : St} {C : CellP} {o : Oper}

/-! ### Structs held against each other -/

def eqF (P : Program) (f : Field) : Option (Nat × Nat) := match f.name == "_", P.underlying f.type with
  | false, some (.int _) => some (f.offset, 0)
  | false, some .bool => some (f.offset, 1)
  | false, some .string => some (f.offset, 2)
  | _, _ => none

def eqTy (P : Program) (t : TypeId) : Option (List (Nat × Nat)) := match P.underlying t with
  | some (.struct F) => match P.stoodInHeld t, P.eqGuardType P.depth t with
    | false, false => F.toList.mapM (eqF P)
    | _, _ => none
  | _ => none

def eqC (kd : Nat) (x y : V) : Option Bool := match kd, x, y with
  | 0, .int k a, .int k' b => match decide (k = k') with
    | true => some (a == b)
    | false => none
  | 1, .bool a, .bool b => some (a == b)
  | 2, .ps l a, .ps m b => some (Nat.beq l m && Nat.beq a b)
  | _, _, _ => none

def eqL : List (Nat × Nat) → List V → List V → Option Bool
  | [], _, _ => some true
  | (off, kd) :: r, l, m => match l[off]?, m[off]? with
    | some x, some y => match eqC kd x y with
      | some true => eqL r l m
      | some false => some false
      | none => none
    | _, _ => none

theorem part_run (w : World) (t : TypeId) (cs : Array Value) (off : Nat) (v : Value) (hu : ∃ d, P.underlying t = some d ∧ isAggD d = false) (hv : cs[off]? = some v) : (part t cs off).run P w = .ok v w := by
  obtain ⟨d, hu, hd⟩ := hu
  have hagg : (isAgg t).run P w = .ok false w := by
    simp [Go.isAgg, underlying, hu]
    cases d <;> first | rfl | simp [isAggD] at hd
  simp [part, hagg, hv]

theorem eqL_run (w : World) {L : Nat → Prop} {T : Tab} {l m : List V} {xs ys : Array Value}
    (hx : ∀ (i : Nat) (q : V), l[i]? = some q → ∃ v, xs[i]? = some v ∧ Rep ρ w L T q v) (hy : ∀ (i : Nat) (q : V), m[i]? = some q → ∃ v, ys[i]? = some v ∧ Rep ρ w L T q v) (d : Nat) (w' : World) :
    ∀ (F : List Field) (fs : List (Nat × Nat)) (p : Bool), F.mapM (eqF P) = some fs → eqL fs l m = some p → (Op.eqFields (d + 1) xs ys F).run P w' = .ok p w'
  | [], fs, p, hF, hp => by
    simp at hF
    subst hF
    simp only [eqL, Option.some.injEq] at hp
    subst hp
    simp [Op.eqFields]
  | f :: F, fs, p, hF, hp => by
    rw [List.mapM_cons] at hF
    simp only [Option.pure_def, Option.bind_eq_bind, Option.bind_eq_some_iff, Option.some.injEq] at hF
    obtain ⟨⟨off, kd⟩, h1, fs', h2, rfl⟩ := hF
    unfold eqL at hp
    split at hp
    · rename_i x y hlx hmy
      obtain ⟨vx, g1, g2⟩ := hx off x hlx
      obtain ⟨vy, g3, g4⟩ := hy off y hmy
      unfold eqF at h1
      have key : ∀ (b : Bool), eqC kd x y = some b → (f.name == "_") = false ∧ f.offset = off ∧ (∃ d, P.underlying f.type = some d ∧ isAggD d = false) ∧ (Op.equalIn (d + 1) f.type vx vy).run P w' = .ok b w' := by
        intro b hb
        split at h1
        · rename_i k hn hu
          cases h1
          unfold eqC at hb
          split at hb <;> rename_i heq <;> try (cases heq; done)
          · split at hb
            · rename_i hk
              have hk := of_decide_eq_true hk
              cases hb
              subst hk
              rw [rep_int g2, rep_int g4]
              exact ⟨hn, rfl, ⟨_, hu, rfl⟩, run_equalIn_int w' d _ _ k _ _ hu⟩
            · cases hb
          · cases hb
        · rename_i hn hu
          cases h1
          unfold eqC at hb
          split at hb <;> rename_i heq <;> try (cases heq; done)
          · cases hb
            rw [rep_bool g2, rep_bool g4]
            exact ⟨hn, rfl, ⟨_, hu, rfl⟩, run_equalIn_bool w' d _ _ _ hu⟩
          · cases hb
        · rename_i hn hu
          cases h1
          unfold eqC at hb
          split at hb <;> rename_i heq <;> try (cases heq; done)
          · cases hb
            obtain ⟨e1, k1⟩ := rep_ps g2
            obtain ⟨e2, k2⟩ := rep_ps g4
            rw [e1, e2, ← bytes_eq k1 k2, ← unpack_toList, ← unpack_toList]
            exact ⟨hn, rfl, ⟨_, hu, rfl⟩, run_equalIn_string w' d _ _ _ hu⟩
          · cases hb
        · cases h1
      split at hp
      · rename_i hb
        obtain ⟨hn, e, hd, hr⟩ := key true hb
        subst e
        have := eqL_run w hx hy d w' F fs' p h2 hp
        have hne : f.name ≠ "_" := by simpa using hn
        simp [Op.eqFields, hne, part_run w' _ _ _ _ hd g1, part_run w' _ _ _ _ hd g3, hr, this]
      · rename_i hb
        cases hp
        obtain ⟨hn, e, hd, hr⟩ := key false hb
        subst e
        have hne : f.name ≠ "_" := by simpa using hn
        simp [Op.eqFields, hne, part_run w' _ _ _ _ hd g1, part_run w' _ _ _ _ hd g3, hr]
      · cases hp
    · cases hp

theorem agg_at {w : World} {L : Nat → Prop} {T : Tab} {l : List V} {vs : Array Value} (hs : vs.size = l.length) (h : ∀ (i : Nat) (q : V), l[i]? = some q → Rep ρ w L T q (vs.getD i undef)) (i : Nat) (q : V) (hq : l[i]? = some q) :
    ∃ v, vs[i]? = some v ∧ Rep ρ w L T q v := by
  have hr := h i q hq
  obtain ⟨y, hy⟩ : ∃ y, vs[i]? = some y := ⟨_, Array.getElem?_eq_getElem (by have := lt_of_get hq; omega)⟩
  rw [getD_of hy] at hr
  exact ⟨y, hy, hr⟩

theorem eqStruct {x y : Operand} {t : TypeId} {l m : List V} {fs : List (Nat × Nat)} {p : Bool}
    (hx : evalV σ x = .agg l) (hy : evalV σ y = .agg m) (ht : eqTy P t = some fs) (hp : eqL fs l m = some p) {X : Ctx} {T : Tab} {a : Act} {w : World} (h : HoldsT ρ X T σ a w) :
    ∃ xs ys, a.eval x = .agg xs ∧ a.eval y = .agg ys ∧ (∀ w' op, (eqGuard op t x y (.agg xs) (.agg ys)).run P w' = .ok () w') ∧ ∀ w', (Op.equalIn 10000 t (.agg xs) (.agg ys)).run P w' = .ok p w' := by
  obtain ⟨xs, e1, s1, r1⟩ := rep_agg (ev_rep h hx)
  obtain ⟨ys, e2, s2, r2⟩ := rep_agg (ev_rep h hy)
  refine ⟨xs, ys, e1, e2, ?_⟩
  unfold eqTy at ht
  split at ht
  · rename_i F hF
    split at ht
    · rename_i h1 h2
      refine ⟨fun w' op => run_eqGuard_agg w' op t x y xs ys h2, fun w' => ?_⟩
      have hf : P.fieldsOf t = F := by simp [Program.fieldsOf, hF]
      rw [run_equalIn_agg w' 9999 t xs ys (by rw [hf]; exact hF) h1, hf]
      exact eqL_run w (agg_at s1 r1) (agg_at s2 r2) 9998 w' _ _ _ ht hp
    · cases ht
  · cases ht

theorem qq_eqlA {x y : Operand} {t u : TypeId} {l m : List V} {fs : List (Nat × Nat)} {p : Bool} (ho : o.op = .binOp .eql t x y u)
    (hx : evalV σ x = .agg l) (hy : evalV σ y = .agg m) (ht : eqTy P t = some fs) (hp : eqL fs l m = some p) : QQ ρ P σ C o (.bool p) := by
  intro X T a w h
  obtain ⟨xs, ys, e1, e2, h1, h2⟩ := eqStruct hx hy ht hp h
  refine ⟨_, .pure (.bool _), fun w' hw hsm => ?_⟩
  simp only [execOp, ho, e1, e2, Sem.run_bind, h1, Result.andThen, run_eql_struct, h2, Sem.run_pure]

theorem qq_neqA {x y : Operand} {t u : TypeId} {l m : List V} {fs : List (Nat × Nat)} {p : Bool} (ho : o.op = .binOp .neq t x y u)
    (hx : evalV σ x = .agg l) (hy : evalV σ y = .agg m) (ht : eqTy P t = some fs) (hp : eqL fs l m = some p) : QQ ρ P σ C o (.bool !p) := by
  intro X T a w h
  obtain ⟨xs, ys, e1, e2, h1, h2⟩ := eqStruct hx hy ht hp h
  refine ⟨_, .pure (.bool _), fun w' hw hsm => ?_⟩
  simp only [execOp, ho, e1, e2, Sem.run_bind, h1, Result.andThen, run_neq_struct, h2, Sem.run_pure]

/-! ### Values of interfaces -/

def isIface (P : Program) (t : TypeId) : Option Bool := match P.underlying t with
  | some (.interface _) => some true
  | some _ => some false
  | none => none

theorem qq_makeInterface {x : Operand} {t : TypeId} (ho : o.op = .makeInterface t x) (ht : isIface P t = some false) : QQ ρ P σ C o (.ifc t (evalV σ x)) := by
  intro X T a w h
  refine ⟨_, .ifc t _ _ (eval_rep h x), fun w' hw hsm => ?_⟩
  unfold isIface at ht
  split at ht
  · cases ht
  · rename_i d hd hn
    cases d <;> first | (exact (hd _ rfl).elim) | simp [execOp, ho, Instr.makeInterface, underlying, hn]
  · cases ht

/-- An interface's value held against nil. -/
def V.nilI : V → Option Bool
  | .sc .nilIface => some true
  | .ifc _ _ => some false
  | _ => none

theorem eqIface {t : TypeId} (hi : isIface P t = some true) {w : World} {L : Nat → Prop} {T : Tab} {v : V} {z : Value} {p : Bool} (hr : Rep ρ w L T v z) (hv : v.nilI = some p) (x y : Operand) (hy : y = .const .nilIface) (op : BinOp) :
    ∀ w', (eqGuard op t x y z .nilIface).run P w' = .ok () w' ∧ (binOp .eql t z .nilIface).run P w' = .ok (.bool p) w' ∧ (binOp .neq t z .nilIface).run P w' = .ok (.bool !p) w' := by
  intro w'
  subst hy
  unfold isIface at hi
  split at hi
  · rename_i ms hm
    unfold V.nilI at hv
    have h1 : ∀ d : Nat, (Op.equalIn (d + 1) t .nilIface .nilIface).run P w' = .ok true w' := fun d => by simp [Op.equalIn, run_underlying hm]
    have h2 : ∀ (d : Nat) (u : TypeId) (q : Value), (Op.equalIn (d + 1) t (.iface u q) .nilIface).run P w' = .ok false w' := fun d u q => by simp [Op.equalIn, run_underlying hm]
    split at hv
    · cases hv
      rw [rep_sc hr]
      refine ⟨by cases op <;> simp [eqGuard], ?_, ?_⟩ <;> (simp only [binOp]; simp [Op.equal, Op.maxDepth, h1 9999])
    · cases hv
      obtain ⟨q, e, _⟩ := rep_ifc hr
      rw [e]
      refine ⟨by cases op <;> simp [eqGuard], ?_, ?_⟩ <;> (simp only [binOp]; simp [Op.equal, Op.maxDepth, h2 9999])
    · cases hv
  · cases hi
  · cases hi

theorem qq_eqlI {x : Operand} {t u : TypeId} {v : V} {p : Bool} (ho : o.op = .binOp .eql t x (.const .nilIface) u) (hx : evalV σ x = v) (hv : v.nilI = some p) (hi : isIface P t = some true) : QQ ρ P σ C o (.bool p) := by
  intro X T a w h
  refine ⟨_, .pure (.bool _), fun w' hw hsm => ?_⟩
  obtain ⟨h1, h2, h3⟩ := eqIface hi (ev_rep h hx) hv x (.const .nilIface) rfl .eql w'
  simp only [execOp, ho, Act.eval, Sem.run_bind, h1, Result.andThen, h2, Sem.run_pure] at *

theorem qq_neqI {x : Operand} {t u : TypeId} {v : V} {p : Bool} (ho : o.op = .binOp .neq t x (.const .nilIface) u) (hx : evalV σ x = v) (hv : v.nilI = some p) (hi : isIface P t = some true) : QQ ρ P σ C o (.bool !p) := by
  intro X T a w h
  refine ⟨_, .pure (.bool _), fun w' hw hsm => ?_⟩
  obtain ⟨h1, h2, h3⟩ := eqIface hi (ev_rep h hx) hv x (.const .nilIface) rfl .neq w'
  simp only [execOp, ho, Act.eval, Sem.run_bind, h1, Result.andThen, h3, Sem.run_pure] at *

/-- A type's nought. -/
def zeroV (P : Program) (t : TypeId) : Option V := match (P.info? t).bind (·.zero) with
  | some (.agg cs) => some (.agg (cs.toList.map cv))
  | some v => some (cv v)
  | none => none

theorem zeroV_run {t : TypeId} {z : V} (hz : zeroV P t = some z) : ∃ v, (∀ w, (zeroValue t).run P w = .ok v w) ∧ ∀ (w : World) (L : Nat → Prop) (T : Tab), Rep ρ w L T z v := by
  unfold zeroV at hz
  cases hi : P.info? t with
  | none => rw [hi] at hz; simp at hz
  | some i =>
    rw [hi] at hz
    simp only [Option.bind_some] at hz
    cases hv : i.zero with
    | none => rw [hv] at hz; simp at hz
    | some v =>
      rw [hv] at hz
      refine ⟨v, fun w => by simp [Go.zeroValue, typeInfo, hi, hv], fun w L T => ?_⟩
      cases v with
      | agg cs =>
        simp only [Option.some.injEq] at hz
        subst hz
        refine .agg _ cs (by simp) fun i q hq => ?_
        rw [List.getElem?_map] at hq
        simp only [Option.map_eq_some_iff] at hq
        obtain ⟨c, hc, rfl⟩ := hq
        rw [getD_of (by simpa using hc)]
        exact rep_cv w L T c
      | _ => simp only [Option.some.injEq] at hz; subst hz; exact rep_cv w L T _

theorem qq_assert {x : Operand} {xt t u : TypeId} {q : V} (ho : o.op = .typeAssert x xt t true) (hx : evalV σ x = .ifc u q) (ht : isIface P t = some false) (he : u = t) : QQ ρ P σ C o (.tup [q, .bool true]) := by
  intro X T a w h
  obtain ⟨v, e, hr⟩ := rep_ifc (ev_rep h hx)
  subst he
  refine ⟨.tuple #[v, .bool true], .tup _ _ rfl fun i p hp => ?_, fun w' hw hsm => ?_⟩
  · match i with
    | 0 => simp at hp; subst hp; exact hr
    | 1 => simp at hp; subst hp; exact .pure (.bool _)
    | i + 2 => simp at hp
  · unfold isIface at ht
    split at ht
    · cases ht
    · rename_i d hd hn
      cases d <;> first | (exact (hd _ rfl).elim) | simp [execOp, ho, e, Instr.typeAssert, underlying, hn]
    · cases ht

theorem qq_assertNot {x : Operand} {xt t u : TypeId} {q z : V} (ho : o.op = .typeAssert x xt t true) (hx : evalV σ x = .ifc u q) (ht : isIface P t = some false) (he : u ≠ t) (hz : zeroV P t = some z) :
    QQ ρ P σ C o (.tup [z, .bool false]) := by
  intro X T a w h
  obtain ⟨v, e, hr⟩ := rep_ifc (ev_rep h hx)
  obtain ⟨y, h1, h2⟩ := zeroV_run hz
  refine ⟨.tuple #[y, .bool false], .tup _ _ rfl fun i p hp => ?_, fun w' hw hsm => ?_⟩
  · match i with
    | 0 => simp at hp; subst hp; exact h2 w _ T
    | 1 => simp at hp; subst hp; exact .pure (.bool _)
    | i + 2 => simp at hp
  · unfold isIface at ht
    split at ht
    · cases ht
    · rename_i d hd hn
      cases d <;> first | (exact (hd _ rfl).elim) | simp [execOp, ho, e, Instr.typeAssert, underlying, hn, he, h1]
    · cases ht

theorem qq_assertNil {x : Operand} {xt t : TypeId} {z : V} (ho : o.op = .typeAssert x xt t true) (hx : evalV σ x = .sc .nilIface) (ht : isIface P t = some false) (hz : zeroV P t = some z) : QQ ρ P σ C o (.tup [z, .bool false]) := by
  intro X T a w h
  have e := rep_sc (ev_rep h hx)
  obtain ⟨y, h1, h2⟩ := zeroV_run hz
  refine ⟨.tuple #[y, .bool false], .tup _ _ rfl fun i p hp => ?_, fun w' hw hsm => ?_⟩
  · match i with
    | 0 => simp at hp; subst hp; exact h2 w _ T
    | 1 => simp at hp; subst hp; exact .pure (.bool _)
    | i + 2 => simp at hp
  · unfold isIface at ht
    split at ht
    · cases ht
    · rename_i d hd hn
      cases d <;> first | (exact (hd _ rfl).elim) | simp [execOp, ho, e, Instr.typeAssert, underlying, hn, h1]
    · cases ht

/-! ### Conversions -/

theorem qq_convert_int {x : Operand} {t u : TypeId} {ti tj : TI} {k k' k'' : IntKind} {n : Int} (ho : o.op = .convert t u x) (hx : evalV σ x = .int k'' n)
    (ht : TyOK P t ti) (hs : ti.sh = .int k') (hu : TyOK P u tj) (hs' : tj.sh = .int k) : QQ ρ P σ C o (.int k (k.wrap n)) := by
  intro X T a w h
  have e1 := rep_int (ev_rep h hx)
  refine ⟨_, .pure (.int _ _), fun w' hw hsm => ?_⟩
  simp [execOp, ho, e1, convert, run_underlying (int_of ht hs), run_underlying (int_of hu hs'), Conv.intToInt]

theorem push_all (bs : List UInt8) : ∀ s : ByteArray, (bs.map fun b => (b.toNat : Int)).foldl (fun r n => r.push (UInt8.ofNat n.toNat)) s = ⟨⟨s.data.toList ++ bs⟩⟩ := by
  induction bs with
  | nil => intro s; simp
  | cons b bs ih =>
    intro s
    rw [List.map_cons, List.foldl_cons, ih]
    congr 2
    simp [ByteArray.push]

theorem qq_bytesString {x : Operand} {t u e : TypeId} {k off len : Nat} {full : Bool} {ob : Ob} {bs : List UInt8} (ho : o.op = .convert t u x) (hx : evalV σ x = .sl k off len full)
    (hk : ∀ j, j < len → C k (off + j) 0) (hob : σ.objs k = some ob) (h1 : ob.s = 1) (hl : bs.length = len) (hb : ∀ (i : Nat) (b : UInt8), bs[i]? = some b → ob.row (off + i) = some [.int .u8 b.toNat])
    (ht : P.underlying t = some (.slice e)) (he : P.underlying e = some (.int .u8)) (hu : P.underlying u = some .string) : QQ ρ P σ C o (.ps len (packL bs)) := by
  intro X T a w h
  obtain ⟨p, at_, cap, hT, ha, hc, hf, hroom, e1⟩ := rep_sl (ev_rep h hx)
  refine ⟨.string (unpack len (packL bs)), .pure (.ps _ _ (by rw [← hl]; exact packL_lt bs)), fun w' hw hsm => ?_⟩
  have hload : (loadCells ⟨p.b, at_, none⟩ len).run P w' = .ok ((bs.map fun b => (b.toNat : Int)).map (Value.int .u8)).toArray w' := by
    have hrun := run_loadCells (P := P) w' ⟨p.b, at_, none⟩ len (fun j => .int .u8 ((bs.getD j 0).toNat : Int)) (fun j hj => by
      have hbj : bs[j]? = some bs[j] := List.getElem?_eq_getElem (by omega)
      obtain ⟨p', hT', hs', hlen, _, hcells⟩ := row_cells h hob (hb j _ hbj)
      rw [hT] at hT'
      cases hT'
      obtain ⟨v, hv, hrep⟩ := hcells 0 _ rfl
      have e2 := rep_int hrep
      have hcell := (hsm k (off + j) 0 p (hk j hj) (by rw [hob]; simp) hT (by omega)).trans hv
      have e3 : at_ = p.o + off * p.s := by omega
      rw [add_at, e3]
      rw [h1] at hs'
      rw [hs'] at hcell ⊢
      rw [e2] at hcell
      rw [show p.o + off * 1 + j = p.o + ((off + j) * 1 + 0) by omega, hcell]
      simp [List.getD, hbj])
    rw [hrun]
    congr 2
    subst hl
    apply List.ext_getElem?
    intro i
    simp only [List.getElem?_map, List.getElem?_range]
    rcases Nat.lt_or_ge i bs.length with g | g
    · rw [List.getElem?_range g, List.getElem?_eq_getElem g]
      simp [List.getD, List.getElem?_eq_getElem g]
    · rw [List.getElem?_eq_none (by simpa using g), List.getElem?_eq_none g]
      rfl
  have hrun := run_bytesToString (P := P) w' ⟨p.b, at_, none⟩ len cap _ hload
  rw [push_all] at hrun
  have e4 : unpack len (packL bs) = (⟨⟨ByteArray.empty.data.toList ++ bs⟩⟩ : ByteArray) := by
    unfold unpack
    rw [← hl, bytesL_packL]
    rfl
  rw [e4]
  simp only [execOp, ho, e1, Sem.run_bind, run_convert_bytes_string w' t u e _ _ _ ht he hu, hrun, Result.andThen, Sem.run_pure]

/-! ### Pieces -/

/-- A bound of a piece. -/
def lowV (σ : St) : Option Operand → Option Nat
  | none => some 0
  | some x => match evalV σ x with
    | .int _ (.ofNat n) => some n
    | _ => none
def highV (σ : St) (len : Nat) : Option Operand → Option Nat
  | none => some len
  | some x => match evalV σ x with
    | .int _ (.ofNat n) => some n
    | _ => none

theorem bounds_run {X : Ctx} {T : Tab} {a : Act} {w : World} (hh : HoldsT ρ X T σ a w) (w' : World) {low high : Option Operand} {len cap l h : Nat} (isSlice : Bool) (hl : lowV σ low = some l) (hhi : highV σ len high = some h) (h1 : l ≤ h) (h2 : h ≤ len) (h3 : len ≤ cap) :
    (Instr.sliceBounds isSlice len cap (low.map a.eval) (high.map a.eval) none).run P w' = .ok (l, h, cap) w' := by
  have key : ∀ (x : Operand) (n m : Nat) (code : BoundsCode), (match evalV σ x with | .int _ (.ofNat n) => some n | _ => none) = some n → n ≤ m → (Instr.sliceBound (a.eval x) m code).run P w' = .ok n w' := by
    intro x n m code hx hm
    split at hx
    · rename_i k j he
      cases hx
      have := rep_int (ev_rep hh he)
      rw [this]
      have hm' : ((n : Nat) : Int) ≤ m := by omega
      simp [Instr.sliceBound, asIntOf, hm, hm']
    · cases hx
  cases low with
  | none =>
    simp only [lowV, Option.some.injEq] at hl
    subst hl
    cases high with
    | none =>
      simp only [highV, Option.some.injEq] at hhi
      subst hhi
      simp [Instr.sliceBounds]
    | some y =>
      have h5 := fun code => key y h cap code hhi (by omega)
      cases isSlice <;> simp [Instr.sliceBounds, h5]
  | some x =>
    have h4 := fun code => key x l h code hl h1
    cases high with
    | none =>
      simp only [highV, Option.some.injEq] at hhi
      subst hhi
      cases isSlice <;> simp [Instr.sliceBounds, h4]
    | some y =>
      have h5 := fun code => key y h cap code hhi (by omega)
      cases isSlice <;> simp [Instr.sliceBounds, h4, h5]

theorem qq_slicePs {x : Operand} {t : TypeId} {ti : TI} {low high : Option Operand} {len n l h : Nat} (ho : o.op = .slice t x low high none) (hx : evalV σ x = .ps len n) (ht : TyOK P t ti) (hs : ti.sh = .string)
    (hl : lowV σ low = some l) (hhi : highV σ len high = some h) (h1 : l ≤ h) (h2 : h ≤ len) : QQ ρ P σ C o (.ps (h - l) (n / 256 ^ l % 256 ^ (h - l))) := by
  intro X T a w hh
  have e1 := (rep_ps (ev_rep hh hx)).1
  have hu := string_of ht hs
  refine ⟨.string (unpack (h - l) (n / 256 ^ l % 256 ^ (h - l))), .pure (.ps _ _ (Nat.mod_lt _ (Nat.pos_of_ne_zero (by simp)))), fun w' hw hsm => ?_⟩
  have hb := bounds_run (P := P) hh w' (cap := len) false hl hhi h1 h2 (Nat.le_refl _)
  have e2 : (unpack len n).extract l h = unpack (h - l) (n / 256 ^ l % 256 ^ (h - l)) := by
    unfold unpack
    apply ByteArray.ext
    rw [ByteArray.data_extract]
    apply Array.toList_inj.mp
    rw [Array.toList_extract]
    show List.extract (bytesL len n) l h = bytesL (h - l) (n / 256 ^ l % 256 ^ (h - l))
    rw [List.extract_eq_take_drop, bytesL_drop, bytesL_take _ _ _ (by omega)]
  simp [execOp, ho, Instr.sliceAt, run_underlying hu, Instr.slice, e1, unpack_size, hb, e2]

theorem qq_sliceSl {x : Operand} {t : TypeId} {ti : TI} {e es eb : Nat} {low high : Option Operand} {k off len l h : Nat} {full : Bool} {ob : Ob} (ho : o.op = .slice t x low high none) (hx : evalV σ x = .sl k off len full) (ht : TyOK P t ti) (hs : ti.sh = .slice e es eb)
    (hob : σ.objs k = some ob) (hst : ob.s = es) (hl : lowV σ low = some l) (hhi : highV σ len high = some h) (h1 : l ≤ h) (h2 : h ≤ len) : QQ ρ P σ C o (.sl k (off + l) (h - l) (full && Nat.beq h len)) := by
  intro X T a w hh
  obtain ⟨hu, j, hj, hjs, hjb⟩ := slice_of ht hs
  obtain ⟨p, at_, cap, hT, ha, hc, hf, ⟨Cs, ty, fr, hC, hroom⟩, e1⟩ := rep_sl (ev_rep hh hx)
  obtain ⟨p', hT', _, hs', _⟩ := hh.mem.obj k ob hob
  rw [hT] at hT'
  cases hT'
  have hes : j.size = p.s := by omega
  have hb := fun w' => bounds_run (P := P) hh w' (cap := cap) true hl hhi h1 h2 hc
  by_cases hcl : cap = l
  · subst hcl
    have e2 : cap = h := by omega
    subst e2
    refine ⟨.slice (some ⟨p.b, at_, none⟩) (cap - cap) (cap - cap), ?_, fun w' hw hsm => ?_⟩
    · have := Rep.sl (ρ := ρ) (w := w) (L := Live X.A T σ.objs) (T := T) k (off + cap) (cap - cap) (full && Nat.beq cap len) p at_ (cap - cap) hT (.inl (by omega)) (by omega) (fun _ => rfl) ⟨Cs, ty, fr, hC, by
        have : (cap - cap) * p.s = 0 := by simp
        omega⟩
      exact this
    · simp [execOp, ho, Instr.sliceAt, run_underlying hu, Instr.slice, e1, hb w', Go.sizeOf, typeInfo, hj]
  · refine ⟨.slice (some ⟨p.b, at_ + l * p.s, none⟩) (h - l) (cap - l), ?_, fun w' hw hsm => ?_⟩
    · refine .sl k (off + l) (h - l) _ p (at_ + l * p.s) (cap - l) hT ?_ (by omega) ?_ ⟨Cs, ty, fr, hC, ?_⟩
      · rcases ha with ha | ha
        · left; omega
        · right; rw [ha, Nat.add_mul, Nat.add_assoc]
      · intro hfull
        simp only [Bool.and_eq_true, Nat.beq_eq] at hfull
        have := hf hfull.1
        omega
      · have h5 : l * p.s + (cap - l) * p.s = cap * p.s := by rw [← Nat.add_mul]; congr 1; omega
        omega
    · simp [execOp, ho, Instr.sliceAt, run_underlying hu, Instr.slice, e1, hb w', Go.sizeOf, typeInfo, hj, hcl, hes, add_at]

theorem qq_sliceRo {x : Operand} {t : TypeId} {ti : TI} {e es eb : Nat} {low high : Option Operand} {l h : Nat} {rows : List (List V)} (ho : o.op = .slice t x low high none) (hx : evalV σ x = .ro es rows) (ht : TyOK P t ti) (hs : ti.sh = .slice e es eb)
    (hl : lowV σ low = some l) (hhi : highV σ rows.length high = some h) (h1 : l ≤ h) (h2 : h ≤ rows.length) : QQ ρ P σ C o (.ro es ((rows.drop l).take (h - l))) := by
  intro X T a w hh
  obtain ⟨hu, j, hj, hjs, hjb⟩ := slice_of ht hs
  rcases rep_ro (ev_rep hh hx) with ⟨e1, rfl⟩ | ⟨b, o0, cap, val, e1, g1, g2, g3, g4, g5, g6⟩
  · have hh0 : h = 0 := by simpa using h2
    subst hh0
    have hl0 : l = 0 := by omega
    subst hl0
    refine ⟨.slice none 0 0, .pure (.nil es), fun w' hw hsm => ?_⟩
    have hb := bounds_run (P := P) hh w' (cap := 0) true hl hhi (Nat.le_refl _) (Nat.le_refl _) (Nat.le_refl _)
    rw [List.length_nil] at hb
    simp [execOp, ho, Instr.sliceAt, run_underlying hu, Instr.slice, e1, hb, Go.sizeOf, typeInfo, hj]
  · have hb := fun w' => bounds_run (P := P) hh w' (cap := cap) true hl hhi h1 h2 g3
    have hlen : ((rows.drop l).take (h - l)).length = h - l := by rw [List.length_take, List.length_drop]; omega
    by_cases hcl : cap = l
    · subst hcl
      have e2 : rows.length = cap := by omega
      have e3 : h = cap := by omega
      subst e3
      have e4 : (rows.drop h).take (h - h) = [] := by simp
      refine ⟨.slice (some ⟨b, o0, none⟩) (h - h) (h - h), ?_, fun w' hw hsm => ?_⟩
      · rw [e4]
        have := RepP.ro (ρ := ρ) (w := w) (L := Live X.A T σ.objs) es [] b o0 (h - h) val g1 g2 (by simp) (by simp) (by simp) (by simp)
        rw [List.length_nil] at this
        rw [show h - h = 0 by omega] at this ⊢
        exact .pure this
      · simp [execOp, ho, Instr.sliceAt, run_underlying hu, Instr.slice, e1, hb w', Go.sizeOf, typeInfo, hj]
    · refine ⟨.slice (some ⟨b, o0 + l * es, none⟩) (h - l) (cap - l), ?_, fun w' hw hsm => ?_⟩
      · have hget : ∀ (r : Nat) (row : List V), ((rows.drop l).take (h - l))[r]? = some row → rows[l + r]? = some row := by
          intro r row hr
          have hlt := (List.getElem?_eq_some_iff.mp hr).1
          rw [hlen] at hlt
          rw [List.getElem?_take, if_pos hlt, List.getElem?_drop] at hr
          exact hr
        have := RepP.ro (ρ := ρ) (w := w) (L := Live X.A T σ.objs) es ((rows.drop l).take (h - l)) b (o0 + l * es) (cap - l) (fun r c => val (l + r) c) g1 g2 (by rw [hlen]; omega)
          (fun row hr => g4 row (List.mem_of_mem_drop (List.mem_of_mem_take hr)))
          (fun r row hr c q hq => by
            have := g5 (l + r) row (hget r row hr) c q hq
            rw [Nat.add_mul] at this
            rw [show o0 + l * es + (r * es + c) = o0 + (l * es + r * es + c) by omega]
            exact this)
          (fun r row hr c q hq => g6 (l + r) row (hget r row hr) c q hq)
        rw [hlen] at this
        exact .pure this
      · simp [execOp, ho, Instr.sliceAt, run_underlying hu, Instr.slice, e1, hb w', Go.sizeOf, typeInfo, hj, hcl, hjs, add_at]

theorem qq_sliceNil {x : Operand} {t : TypeId} {ti : TI} {e es eb : Nat} {low high : Option Operand} (ho : o.op = .slice t x low high none) (hx : evalV σ x = .sc (.slice none 0 0)) (ht : TyOK P t ti) (hs : ti.sh = .slice e es eb)
    (hl : lowV σ low = some 0) (hhi : highV σ 0 high = some 0) : QQ ρ P σ C o (.sc (.slice none 0 0)) := by
  intro X T a w hh
  obtain ⟨hu, j, hj, hjs, hjb⟩ := slice_of ht hs
  have e1 := rep_sc (ev_rep hh hx)
  refine ⟨_, .pure (.sc _), fun w' hw hsm => ?_⟩
  have hb := bounds_run (P := P) hh w' (cap := 0) true hl hhi (Nat.le_refl _) (Nat.le_refl _) (Nat.le_refl _)
  simp [execOp, ho, Instr.sliceAt, run_underlying hu, Instr.slice, e1, hb, Go.sizeOf, typeInfo, hj]

/-! ### The smaller one -/

theorem qq_min {x y : Operand} {ats : Array TypeId} {k : IntKind} {m n : Int} (ho : o.op = .call { callee := .builtin .min, args := #[x, y], argTypes := ats }) (hx : evalV σ x = .int k m) (hy : evalV σ y = .int k n) :
    QQ ρ P σ C o (.int k (if n < m then n else m)) := by
  intro X T a w hh
  have e1 := rep_int (ev_rep hh hx)
  have e2 := rep_int (ev_rep hh hy)
  exact ⟨_, .pure (.int _ _), fun w' hw hsm => by simp [execOp, ho, resolve, e1, e2, invoke, builtin, Builtin.min_, Builtin.min2]⟩

end quiet
end Go.Proofs.YtjljgldgkkfckaaDoor.M
