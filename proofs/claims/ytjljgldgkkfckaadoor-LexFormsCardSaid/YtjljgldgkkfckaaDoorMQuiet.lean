/- The operations that only look, one by one. -/
import Derived.Test.YtjljgldgkkfckaaDoorMOps
import Derived.Laws.StructEq
import Derived.Laws.Cover3
namespace Go.Proofs.YtjljgldgkkfckaaDoor.M
open Go Go.RowKit
set_option linter.unusedSimpArgs false
set_option linter.unusedVariables false

variable {ρ : Nat → Value}

section quiet
variable {P : Program} {σ : St} {C : CellP} {o : Oper}

theorem qq_move {x : Operand} (ho : o.op = .move x ∨ o.op = .assign x) : QQ ρ P σ C o (evalV σ x) := by
  intro X T a w h
  refine ⟨a.eval x, eval_rep h x, fun w' _ => ?_⟩
  rcases ho with ho | ho <;> simp [execOp, ho]

theorem qq_pick {c x y : Operand} {t : Bool} (ho : o.op = .pick c x y) (hc : evalV σ c = .bool t) : QQ ρ P σ C o (match t with | true => evalV σ x | false => evalV σ y) := by
  intro X T a w h
  have hb := eval_rep h c
  rw [hc] at hb
  have hb := rep_bool hb
  cases t with
  | true => exact ⟨a.eval x, eval_rep h x, fun w' _ => by simp [execOp, ho, hb, asBool]⟩
  | false => exact ⟨a.eval y, eval_rep h y, fun w' _ => by simp [execOp, ho, hb, asBool]⟩

/-- What is surely not nil. -/
def V.there : V → Bool
  | .ptr _ _ _ | .pro _ | .fn _ _ => true
  | .sc (.pointer (some _)) => true
  | _ => false

theorem qq_nilCheck {x : Operand} {v : V} (ho : o.op = .nilCheck x) (hx : evalV σ x = v) (hv : v.there = true) : QQ ρ P σ C o v := by
  intro X T a w h
  have hr := eval_rep h x
  rw [hx] at hr
  refine ⟨a.eval x, hr, fun w' _ => ?_⟩
  cases v with
  | ptr k r c => obtain ⟨p, _, e⟩ := rep_ptr hr; simp [execOp, ho, e]
  | pro cells => obtain ⟨b, s, _, e, _⟩ := rep_pro hr; simp [execOp, ho, e]
  | fn f l => obtain ⟨vs, e, _⟩ := rep_fn hr; simp [execOp, ho, e]
  | sc y =>
    have e := rep_sc hr
    cases y with
    | pointer p => cases p with
      | none => simp [V.there] at hv
      | some p => simp [execOp, ho, e]
    | _ => simp [V.there] at hv
  | _ => simp [V.there] at hv

theorem qq_extract {x : Operand} {i : Nat} {l : List V} {v : V} (ho : o.op = .extract x i) (hx : evalV σ x = .tup l) (hv : l[i]? = some v) : QQ ρ P σ C o v := by
  intro X T a w h
  have hr0 := eval_rep h x
  rw [hx] at hr0
  obtain ⟨vs, e, hs, hr⟩ := rep_tup hr0
  have hi := lt_of_get hv
  have hg := hr i v hv
  obtain ⟨y, hy⟩ : ∃ y, vs[i]? = some y := ⟨_, Array.getElem?_eq_getElem (show i < vs.size by omega)⟩
  rw [getD_of hy] at hg
  refine ⟨y, hg, fun w' _ => ?_⟩
  simp [execOp, ho, e, Instr.extract, hy]

theorem qq_not {x : Operand} {t : Bool} {ty : TypeId} (ho : o.op = .unOp .not ty x) (hx : evalV σ x = .bool t) : QQ ρ P σ C o (.bool (!t)) := by
  intro X T a w h
  have hr := eval_rep h x
  rw [hx] at hr
  exact ⟨_, .pure (.bool _), fun w' _ => by simp [execOp, ho, rep_bool hr, Op.unary]⟩

theorem ev_rep {X : Ctx} {T : Tab} {a : Act} {w : World} (h : HoldsT ρ X T σ a w) {x : Operand} {v : V} (hx : evalV σ x = v) : Rep ρ w (Live X.A T σ.objs) T v (a.eval x) := by
  subst hx
  exact eval_rep h x

theorem qq_makeFunc {f : FuncId} {caps : Array Operand} (ho : o.op = .makeFunc (.func f) #[] caps) : QQ ρ P σ C o (.fn f (evalL σ caps.toList)) := by
  intro X T a w h
  refine ⟨.func (.func f) #[] (caps.map a.eval), .fn f _ _ (by simp [evalL_eq]) fun i q hq => ?_, fun w' _ => by simp [execOp, ho, Instr.makeFunc]⟩
  rw [evalL_eq, List.getElem?_map] at hq
  simp only [Option.map_eq_some_iff] at hq
  obtain ⟨y, hy, rfl⟩ := hq
  have : (caps.map a.eval)[i]? = some (a.eval y) := by
    rw [Array.getElem?_map]
    rw [Array.getElem?_toList] at hy
    rw [hy]
    rfl
  rw [getD_of this]
  exact eval_rep h y

theorem qq_fieldAddr_ptr {x : Operand} {t : TypeId} {i : Nat} {ti : TI} {fs : List (Nat × Nat × Bool)} {off n : Nat} {g : Bool} {k r c : Nat} (ho : o.op = .fieldAddr t x i)
    (hx : evalV σ x = .ptr k r c) (ht : TyOK P t ti) (hs : ti.sh = .struct fs) (hi : fs[i]? = some (off, n, g)) (hn : n ≠ 0) : QQ ρ P σ C o (.ptr k r (c + off)) := by
  intro X T a w h
  obtain ⟨p, h1, e⟩ := rep_ptr (ev_rep h hx)
  obtain ⟨F, hF, hall⟩ := struct_of ht hs
  obtain ⟨f, j, d, h2, h3, h4, h5, h6, h7⟩ := hall i off n g hi
  refine ⟨_, .ptr k r (c + off) p h1, fun w' _ => ?_⟩
  have hz : j.size ≠ 0 := by omega
  simp [execOp, ho, e, Instr.fieldAt, run_underlying hF, h2, Instr.sureAddr, fieldPlace, Go.sizeOf, typeInfo, h4, hz, add_at, h3, Nat.add_assoc]

theorem qq_fieldAddr_pro {x : Operand} {t : TypeId} {i : Nat} {ti : TI} {fs : List (Nat × Nat × Bool)} {off n : Nat} {g : Bool} {cells : List V} (ho : o.op = .fieldAddr t x i)
    (hx : evalV σ x = .pro cells) (ht : TyOK P t ti) (hs : ti.sh = .struct fs) (hi : fs[i]? = some (off, n, g)) (hn : n ≠ 0) :
    QQ ρ P σ C o (.pro (cells.drop off)) := by
  intro X T a w h
  obtain ⟨b, p, val, e, h1, h1', h1o, hc, hr⟩ := rep_pro (ev_rep h hx)
  obtain ⟨F, hF, hall⟩ := struct_of ht hs
  obtain ⟨f, j, d, h2, h3, h4, h5, h6, h7⟩ := hall i off n g hi
  refine ⟨.pointer (some ⟨b, p + off, none⟩), .pure (.pro _ b (p + off) (fun c => val (off + c)) h1 h1' (fun q hq => h1o q (List.mem_of_mem_drop hq)) ?_ ?_), fun w' _ => ?_⟩
  · intro c q hq
    rw [List.getElem?_drop] at hq
    rw [← hc _ q hq, Nat.add_assoc]
  · intro c q hq
    rw [List.getElem?_drop] at hq
    exact hr _ q hq
  · have hz : j.size ≠ 0 := by omega
    simp [execOp, ho, e, Instr.fieldAt, run_underlying hF, h2, Instr.sureAddr, fieldPlace, Go.sizeOf, typeInfo, h4, hz, add_at, h3]

/-- The cells of an object's row, one by one. -/
theorem row_cells {X : Ctx} {T : Tab} {a : Act} {w : World} (h : HoldsT ρ X T σ a w) {k r : Nat} {ob : Ob} {row : List V} (ho : σ.objs k = some ob) (hr : ob.row r = some row) :
    ∃ p, T k = some p ∧ p.s = ob.s ∧ row.length = ob.s ∧ (∀ q ∈ row, q.one = true) ∧
      ∀ (c : Nat) (q : V), row[c]? = some q → ∃ v, w.cell? ⟨p.b, p.o + (r * p.s + c), none⟩ = some v ∧ Rep ρ w (Live X.A T σ.objs) T q v := by
  obtain ⟨p, hT, _, hs, C, t, hb, hrows⟩ := h.mem.obj k ob ho
  obtain ⟨h1, h2, h3⟩ := hrows r row hr
  refine ⟨p, hT, hs, h1, h2, fun c q hq => ?_⟩
  obtain ⟨v, hv, hrep⟩ := h3 c q hq
  exact ⟨v, by simp [World.cell?, hb, hv], hrep⟩

theorem qq_load_word {x : Operand} {t : TypeId} {ti : TI} {k r c : Nat} {ob : Ob} {row : List V} {q : V} (ho : o.op = .load t x)
    (hx : evalV σ x = .ptr k r c) (ht : TyOK P t ti) (hs : ti.sh.agg = false) (hk : C k r c) (hob : σ.objs k = some ob) (hrow : ob.row r = some row) (hq : row[c]? = some q) :
    QQ ρ P σ C o q := by
  intro X T a w h
  obtain ⟨p, h1, e⟩ := rep_ptr (ev_rep h hx)
  obtain ⟨p', hT, hps, hlen, hone, hcells⟩ := row_cells h hob hrow
  rw [hT] at h1
  cases h1
  obtain ⟨v, hv, hrep⟩ := hcells c q hq
  refine ⟨v, hrep, fun w' hw hsm => ?_⟩
  have hlt := lt_of_get hq
  have hv' := (hsm k r c p hk (by rw [hob]; simp) hT (by omega)).trans hv
  simp [execOp, ho, e, Instr.loadAt, Instr.sureAddr, loadVar, ht.isAgg, hs, hv']

theorem cells_fn {w : World} {b p : Nat} {l : List V} {R : V → Value → Prop} (hl : ∀ (c : Nat) (q : V), l[c]? = some q → ∃ v, w.cell? ⟨b, p + c, none⟩ = some v ∧ R q v) :
    ∃ val : Nat → Value, ∀ (c : Nat) (q : V), l[c]? = some q → w.cell? ⟨b, p + c, none⟩ = some (val c) ∧ R q (val c) := by
  refine ⟨fun c => if hc : c < l.length then (hl c l[c] (List.getElem?_eq_getElem hc)).choose else undef, fun c q hq => ?_⟩
  have hc := lt_of_get hq
  have hq' : q = l[c] := by rw [List.getElem?_eq_getElem hc] at hq; cases hq; rfl
  subst hq'
  simp only [hc, dif_pos]
  exact (hl c l[c] (List.getElem?_eq_getElem hc)).choose_spec

theorem made_list {l : List V} {n : Nat} (hn : l.length = n) {val : Nat → Value} {R : V → Value → Prop} (h : ∀ (c : Nat) (q : V), l[c]? = some q → R q (val c)) :
    (((List.range n).map val).toArray).size = l.length ∧ ∀ (i : Nat) (q : V), l[i]? = some q → R q ((((List.range n).map val).toArray).getD i undef) := by
  refine ⟨by simp [hn], fun i q hq => ?_⟩
  have hi : i < n := by have := lt_of_get hq; omega
  have : (((List.range n).map val).toArray)[i]? = some (val i) := by simp [hi]
  rw [getD_of this]
  exact h i q hq

theorem sub_cells {row l : List V} {c n : Nat} (hl : (row.drop c).take n = l) (i : Nat) (q : V) (hq : l[i]? = some q) : row[c + i]? = some q := by
  rw [← hl, List.getElem?_take] at hq
  split at hq
  · rwa [List.getElem?_drop] at hq
  · cases hq

theorem qq_load_agg {x : Operand} {t : TypeId} {ti : TI} {k r c : Nat} {ob : Ob} {row l : List V} (ho : o.op = .load t x)
    (hx : evalV σ x = .ptr k r c) (ht : TyOK P t ti) (hs : ti.sh.agg = true) (hk : ∀ j, j < ti.size → C k r (c + j)) (hob : σ.objs k = some ob) (hrow : ob.row r = some row)
    (hl : (row.drop c).take ti.size = l) (hn : l.length = ti.size) : QQ ρ P σ C o (.agg l) := by
  intro X T a w h
  obtain ⟨p, h1, e⟩ := rep_ptr (ev_rep h hx)
  obtain ⟨p', hT, hps, hlen, hone, hcells⟩ := row_cells h hob hrow
  rw [hT] at h1
  cases h1
  obtain ⟨val, hval⟩ := cells_fn (w := w) (b := p.b) (p := p.o + (r * p.s + c)) (l := l) (R := Rep ρ w (Live X.A T σ.objs) T)
    (fun i q hq => by rw [Nat.add_assoc, Nat.add_assoc]; exact hcells _ q (sub_cells hl i q hq))
  obtain ⟨g1, g2⟩ := made_list hn (R := Rep ρ w (Live X.A T σ.objs) T) (val := val) (fun i q hq => (hval i q hq).2)
  refine ⟨_, .agg l _ g1 g2, fun w' hw hsm => ?_⟩
  have hrun := run_loadCells (P := P) w' ⟨p.b, p.o + (r * p.s + c), none⟩ ti.size val (fun j hj => by
    have hq : l[j]? = some l[j] := List.getElem?_eq_getElem (by omega)
    rw [add_at]
    have hlt := lt_of_get (sub_cells hl j _ hq)
    have := hsm k r (c + j) p (hk j hj) (by rw [hob]; simp) hT (by omega)
    rw [show p.o + (r * p.s + c) + j = p.o + (r * p.s + (c + j)) by omega, this]
    have h9 := (hval j _ hq).1
    rwa [show p.o + (r * p.s + c) + j = p.o + (r * p.s + (c + j)) by omega] at h9)
  simp [execOp, ho, e, Instr.loadAt, Instr.sureAddr, loadVar, ht.isAgg, hs, ht.sizeOf, hrun]

theorem qq_load_word_pro {x : Operand} {t : TypeId} {ti : TI} {cells : List V} {q : V} (ho : o.op = .load t x)
    (hx : evalV σ x = .pro cells) (ht : TyOK P t ti) (hs : ti.sh.agg = false) (hq : cells[0]? = some q) : QQ ρ P σ C o q := by
  intro X T a w h
  obtain ⟨b, p, val, e, h1, h1', h1o, hc, hr⟩ := rep_pro (ev_rep h hx)
  refine ⟨val 0, .pure (hr 0 q hq), fun w' hw hsm => ?_⟩
  have hv' := cell_stab hw (hc 0 q hq) h1
  simp only [Nat.add_zero] at hv'
  simp [execOp, ho, e, Instr.loadAt, Instr.sureAddr, loadVar, ht.isAgg, hs, hv']

theorem qq_load_agg_pro {x : Operand} {t : TypeId} {ti : TI} {cells l : List V} (ho : o.op = .load t x)
    (hx : evalV σ x = .pro cells) (ht : TyOK P t ti) (hs : ti.sh.agg = true) (hl : cells.take ti.size = l) (hn : l.length = ti.size) : QQ ρ P σ C o (.agg l) := by
  intro X T a w h
  obtain ⟨b, p, val, e, h1, h1', h1o, hc, hr⟩ := rep_pro (ev_rep h hx)
  have hsub : ∀ (i : Nat) (q : V), l[i]? = some q → cells[i]? = some q := fun i q hq => by
    have := sub_cells (row := cells) (c := 0) (by simpa using hl) i q hq
    simpa using this
  obtain ⟨g1, g2⟩ := made_list hn (R := Rep ρ w (Live X.A T σ.objs) T) (val := val) (fun i q hq => .pure (hr i q (hsub i q hq)))
  refine ⟨_, .agg l _ g1 g2, fun w' hw hsm => ?_⟩
  have hrun := run_loadCells (P := P) w' ⟨b, p, none⟩ ti.size val (fun j hj => by
    have hq : l[j]? = some l[j] := List.getElem?_eq_getElem (by omega)
    rw [add_at]
    exact cell_stab hw (hc j _ (hsub j _ hq)) h1)
  simp [execOp, ho, e, Instr.loadAt, Instr.sureAddr, loadVar, ht.isAgg, hs, ht.sizeOf, hrun]

theorem qq_field_word {x : Operand} {t : TypeId} {i : Nat} {ti : TI} {fs : List (Nat × Nat × Bool)} {off n : Nat} {l : List V} {q : V} (ho : o.op = .field t x i)
    (hx : evalV σ x = .agg l) (ht : TyOK P t ti) (hs : ti.sh = .struct fs) (hi : fs[i]? = some (off, n, false)) (hq : l[off]? = some q) : QQ ρ P σ C o q := by
  intro X T a w h
  obtain ⟨vs, e, h1, h2⟩ := rep_agg (ev_rep h hx)
  obtain ⟨F, hF, hall⟩ := struct_of ht hs
  obtain ⟨f, j, d, g2, g3, g4, g5, g6, g7⟩ := hall i off n false hi
  have hr := h2 off q hq
  obtain ⟨y, hy⟩ : ∃ y, vs[off]? = some y := ⟨_, Array.getElem?_eq_getElem (by have := lt_of_get hq; omega)⟩
  rw [getD_of hy] at hr
  refine ⟨y, hr, fun w' hw hsm => ?_⟩
  have hagg : (isAgg f.type).run P w' = .ok false w' := by
    simp [Go.isAgg, underlying, g6]
    cases d <;> first | rfl | simp [isAggD] at g7
  simp [execOp, ho, e, Instr.field, run_underlying hF, g2, asAgg, part, hagg, g3, hy]

theorem qq_field_agg {x : Operand} {t : TypeId} {i : Nat} {ti : TI} {fs : List (Nat × Nat × Bool)} {off n : Nat} {l m : List V} (ho : o.op = .field t x i)
    (hx : evalV σ x = .agg l) (ht : TyOK P t ti) (hs : ti.sh = .struct fs) (hi : fs[i]? = some (off, n, true)) (hm : (l.drop off).take n = m) (hn : m.length = n) : QQ ρ P σ C o (.agg m) := by
  intro X T a w h
  obtain ⟨vs, e, h1, h2⟩ := rep_agg (ev_rep h hx)
  obtain ⟨F, hF, hall⟩ := struct_of ht hs
  obtain ⟨f, j, d, g2, g3, g4, g5, g6, g7⟩ := hall i off n true hi
  have hlen : off + n ≤ l.length ∨ n = 0 := by
    rw [← hm] at hn
    simp only [List.length_take, List.length_drop] at hn
    omega
  refine ⟨.agg (vs.extract off (off + n)), .agg m _ (by rw [Array.size_extract]; omega) fun i q hq => ?_, fun w' hw hsm => ?_⟩
  · have hq' := sub_cells hm i q hq
    have hr := h2 _ q hq'
    have hi' := lt_of_get hq
    have : (vs.extract off (off + n))[i]? = vs[off + i]? := by
      rw [Array.getElem?_extract]
      simp only [ite_eq_left_iff, Nat.not_lt]
      intro hge
      have := lt_of_get hq'
      omega
    rw [Array.getD_eq_getD_getElem?, this, ← Array.getD_eq_getD_getElem?]
    exact hr
  · have hagg : (isAgg f.type).run P w' = .ok true w' := by
      simp [Go.isAgg, underlying, g6]
      cases d <;> first | rfl | simp [isAggD] at g7
    simp [execOp, ho, e, Instr.field, run_underlying hF, g2, asAgg, part, hagg, g3, Go.sizeOf, typeInfo, g4, g5]

/-! ### len -/

def isLen (o : Oper) (x : Operand) (t : TypeId) : Prop := o.op = .call { callee := .builtin .len, args := #[x], argTypes := #[t] }

theorem qq_len_ro {x : Operand} {t : TypeId} {ti : TI} {e es eb s : Nat} {rows : List (List V)} (ho : isLen o x t)
    (hx : evalV σ x = .ro s rows) (ht : TyOK P t ti) (hs : ti.sh = .slice e es eb) : QQ ρ P σ C o (.int .i64 rows.length) := by
  intro X T a w h
  have ho : o.op = _ := ho
  have hu := (slice_of ht hs).1
  refine ⟨.int .i64 rows.length, .pure (.int _ _), fun w' hw hsm => ?_⟩
  rcases rep_ro (ev_rep h hx) with ⟨e1, e2⟩ | ⟨b, p, cap, val, e1, _⟩
  · subst e2
    simp [execOp, ho, resolve, e1, invoke, builtin, Builtin.len_, run_underlying hu, goInt]
  · simp [execOp, ho, resolve, e1, invoke, builtin, Builtin.len_, run_underlying hu, goInt]

theorem qq_len_sl {x : Operand} {t : TypeId} {ti : TI} {e es eb k off len : Nat} {full : Bool} (ho : isLen o x t)
    (hx : evalV σ x = .sl k off len full) (ht : TyOK P t ti) (hs : ti.sh = .slice e es eb) : QQ ρ P σ C o (.int .i64 len) := by
  intro X T a w h
  have ho : o.op = _ := ho
  have hu := (slice_of ht hs).1
  obtain ⟨p, at_, cap, _, _, _, _, _, e1⟩ := rep_sl (ev_rep h hx)
  exact ⟨.int .i64 len, .pure (.int _ _), fun w' hw hsm => by simp [execOp, ho, resolve, e1, invoke, builtin, Builtin.len_, run_underlying hu, goInt]⟩

theorem qq_len_nil {x : Operand} {t : TypeId} {ti : TI} {e es eb : Nat} (ho : isLen o x t)
    (hx : evalV σ x = .sc (.slice none 0 0)) (ht : TyOK P t ti) (hs : ti.sh = .slice e es eb) : QQ ρ P σ C o (.int .i64 0) := by
  intro X T a w h
  have ho : o.op = _ := ho
  have hu := (slice_of ht hs).1
  have e1 := rep_sc (ev_rep h hx)
  exact ⟨.int .i64 0, .pure (.int _ _), fun w' hw hsm => by simp [execOp, ho, resolve, e1, invoke, builtin, Builtin.len_, run_underlying hu, goInt]⟩

theorem qq_len_ps {x : Operand} {t : TypeId} {ti : TI} {len n : Nat} (ho : isLen o x t)
    (hx : evalV σ x = .ps len n) (ht : TyOK P t ti) (hs : ti.sh = .string) : QQ ρ P σ C o (.int .i64 len) := by
  intro X T a w h
  have ho : o.op = _ := ho
  have hu := string_of ht hs
  have e1 := (rep_ps (ev_rep h hx)).1
  exact ⟨.int .i64 len, .pure (.int _ _), fun w' hw hsm => by simp [execOp, ho, resolve, e1, invoke, builtin, Builtin.len_, run_underlying hu, goInt, unpack_size]⟩

theorem qq_len_str {x : Operand} {t : TypeId} {ti : TI} {s : ByteArray} (ho : isLen o x t)
    (hx : evalV σ x = .sc (.string s)) (ht : TyOK P t ti) (hs : ti.sh = .string) : QQ ρ P σ C o (.int .i64 s.size) := by
  intro X T a w h
  have ho : o.op = _ := ho
  have hu := string_of ht hs
  have e1 := rep_sc (ev_rep h hx)
  exact ⟨.int .i64 s.size, .pure (.int _ _), fun w' hw hsm => by simp [execOp, ho, resolve, e1, invoke, builtin, Builtin.len_, run_underlying hu, goInt]⟩

/-! ### Elements -/

theorem qq_indexAddr_sl {x y : Operand} {t : TypeId} {ti : TI} {e es eb k off len : Nat} {full : Bool} {kd : IntKind} {i : Nat} {ob : Ob} (ho : o.op = .indexAddr t x y)
    (hx : evalV σ x = .sl k off len full) (hy : evalV σ y = .int kd (.ofNat i)) (ht : TyOK P t ti) (hs : ti.sh = .slice e es eb)
    (hob : σ.objs k = some ob) (hst : ob.s = es) (hi : i < len) : QQ ρ P σ C o (.ptr k (off + i) 0) := by
  intro X T a w h
  obtain ⟨hu, j, hj, hjs, hjb⟩ := slice_of ht hs
  obtain ⟨p, at_, cap, hT, ha, hc, hf, hroom, e1⟩ := rep_sl (ev_rep h hx)
  have e2 := rep_int (ev_rep h hy)
  obtain ⟨p', hT', _, hs', _⟩ := h.mem.obj k ob hob
  rw [hT] at hT'
  cases hT'
  refine ⟨_, .ptr k (off + i) 0 p hT, fun w' hw hsm => ?_⟩
  have hes : j.size = p.s := by omega
  have hat : at_ = p.o + off * p.s := by omega
  have hi' : (i : Int) < len := by omega
  simp [execOp, ho, e1, e2, Instr.indexAt, asIntOf, run_underlying hu, Go.sizeOf, typeInfo, hj, hes, hi, hi', add_at, Nat.add_mul, hat, Nat.add_assoc]

theorem qq_indexAddr_ro {x y : Operand} {t : TypeId} {ti : TI} {e es eb : Nat} {kd : IntKind} {i : Nat} {rows : List (List V)} {row : List V} (ho : o.op = .indexAddr t x y)
    (hx : evalV σ x = .ro es rows) (hy : evalV σ y = .int kd (.ofNat i)) (ht : TyOK P t ti) (hs : ti.sh = .slice e es eb)
    (hrow : rows[i]? = some row) : QQ ρ P σ C o (.pro row) := by
  intro X T a w h
  obtain ⟨hu, j, hj, hjs, hjb⟩ := slice_of ht hs
  have e2 := rep_int (ev_rep h hy)
  have hlt := lt_of_get hrow
  rcases rep_ro (ev_rep h hx) with ⟨e1, g2⟩ | ⟨b, p, cap, val, e1, h1, h2, h3, h4, h5, h6⟩
  · subst g2; simp at hlt
  · refine ⟨.pointer (some ⟨b, p + i * es, none⟩), .pure (.pro _ b _ (fun c => val i c) h1 h2 (h4 row (List.mem_of_getElem? hrow)).2 ?_ ?_), fun w' hw hsm => ?_⟩
    · intro c q hq
      rw [Nat.add_assoc]
      exact h5 _ row hrow c q hq
    · exact fun c q hq => h6 _ row hrow c q hq
    · have hi : (i : Int) < (rows.length : Int) := by omega
      simp [execOp, ho, e1, e2, Instr.indexAt, asIntOf, run_underlying hu, Go.sizeOf, typeInfo, hj, hjs, hi, hlt, add_at]

theorem qq_index_ps {x y : Operand} {t : TypeId} {ti : TI} {kd : IntKind} {i len n : Nat} (ho : o.op = .index t x y)
    (hx : evalV σ x = .ps len n) (hy : evalV σ y = .int kd (.ofNat i)) (ht : TyOK P t ti) (hs : ti.sh = .string)
    (hi : i < len) : QQ ρ P σ C o (.int .u8 ((n / 256 ^ i % 256 : Nat) : Int)) := by
  intro X T a w h
  have hu := string_of ht hs
  have e1 := (rep_ps (ev_rep h hx)).1
  have e2 := rep_int (ev_rep h hy)
  have hc : (unpack len n)[i]? = some (UInt8.ofNat (n / 256 ^ i % 256)) := by
    have h1 := bytesL_get len n i hi
    have : i < (unpack len n).size := by rw [unpack_size]; exact hi
    rw [getElem?_pos (unpack len n) i this]
    congr 1
    have h2 : (bytesL len n)[i]? = some ((bytesL len n)[i]'(by rw [bytesL_length]; exact hi)) := List.getElem?_eq_getElem _
    rw [h2] at h1
    exact Option.some.inj h1
  refine ⟨.int .u8 ((n / 256 ^ i % 256 : Nat) : Int), .pure (.int _ _), fun w' hw hsm => ?_⟩
  have hn : (UInt8.ofNat (n / 256 ^ i % 256)).toNat = n / 256 ^ i % 256 := by simp
  simp [execOp, ho, e1, e2, Instr.index, asIntOf, run_underlying hu, hc]

/-! ### Of two -/

/-- Of two whole numbers. -/
def binI (op : BinOp) (k : IntKind) (x y : Int) : Option V :=
  match op with
  | .add => some (.int k (k.wrap (x + y)))
  | .sub => some (.int k (k.wrap (x - y)))
  | .mul => some (.int k (k.wrap (x * y)))
  | .eql => some (.bool (x == y))
  | .neq => some (.bool (x != y))
  | .lss => some (.bool (decide (x < y)))
  | .leq => some (.bool (decide (x ≤ y)))
  | .gtr => some (.bool (decide (y < x)))
  | .geq => some (.bool (decide (y ≤ x)))
  | _ => none

theorem qq_binI {op : BinOp} {x y : Operand} {t u : TypeId} {k : IntKind} {m n : Int} {v : V} (ho : o.op = .binOp op t x y u)
    (hx : evalV σ x = .int k m) (hy : evalV σ y = .int k n) (hv : binI op k m n = some v) : QQ ρ P σ C o v := by
  intro X T a w h
  have e1 := rep_int (ev_rep h hx)
  have e2 := rep_int (ev_rep h hy)
  cases op <;> simp [binI] at hv <;> subst hv
  all_goals first
    | exact ⟨_, .pure (.int _ _), fun w' hw hsm => by simp [execOp, ho, e1, e2, eqGuard, binOp, Op.intArith]⟩
    | exact ⟨_, .pure (.bool _), fun w' hw hsm => by simp [execOp, ho, e1, e2, eqGuard, binOp, Op.intCmp]⟩

theorem qq_quo {x y : Operand} {t u : TypeId} {k : IntKind} {m n : Int} (ho : o.op = .binOp .quo t x y u)
    (hx : evalV σ x = .int k m) (hy : evalV σ y = .int k n) (hn : n ≠ 0) : QQ ρ P σ C o (.int k (k.wrap (m.tdiv n))) := by
  intro X T a w h
  have e1 := rep_int (ev_rep h hx)
  have e2 := rep_int (ev_rep h hy)
  exact ⟨_, .pure (.int _ _), fun w' hw hsm => by simp [execOp, ho, e1, e2, eqGuard, binOp, Op.intDiv, hn]⟩

theorem qq_rem {x y : Operand} {t u : TypeId} {k : IntKind} {m n : Int} (ho : o.op = .binOp .rem t x y u)
    (hx : evalV σ x = .int k m) (hy : evalV σ y = .int k n) (hn : n ≠ 0) : QQ ρ P σ C o (.int k (m.tmod n)) := by
  intro X T a w h
  have e1 := rep_int (ev_rep h hx)
  have e2 := rep_int (ev_rep h hy)
  exact ⟨_, .pure (.int _ _), fun w' hw hsm => by simp [execOp, ho, e1, e2, eqGuard, binOp, Op.intDiv, hn]⟩

theorem unpack_toList (len n : Nat) : (unpack len n).toList = bytesL len n := by
  rw [ByteArray.toList_eq]
  rfl

theorem bytes_eq {l m a b : Nat} (ha : a < 256 ^ l) (hb : b < 256 ^ m) : (bytesL l a == bytesL m b) = (Nat.beq l m && Nat.beq a b) := by
  rw [Bool.eq_iff_iff]
  simp only [beq_iff_eq, Bool.and_eq_true, Nat.beq_eq]
  constructor
  · intro h
    have h1 := congrArg List.length h
    rw [bytesL_length, bytesL_length] at h1
    subst h1
    exact ⟨rfl, bytesL_inj _ _ _ ha hb h⟩
  · rintro ⟨rfl, rfl⟩
    rfl

theorem qq_eqlS {x y : Operand} {t u : TypeId} {l m a' b' : Nat} (ho : o.op = .binOp .eql t x y u)
    (hx : evalV σ x = .ps l a') (hy : evalV σ y = .ps m b') : QQ ρ P σ C o (.bool (Nat.beq l m && Nat.beq a' b')) := by
  intro X T a w h
  obtain ⟨e1, g1⟩ := rep_ps (ev_rep h hx)
  obtain ⟨e2, g2⟩ := rep_ps (ev_rep h hy)
  refine ⟨_, .pure (.bool _), fun w' hw hsm => ?_⟩
  rw [← bytes_eq g1 g2]
  simp [execOp, ho, e1, e2, eqGuard, binOp, Op.stringOp, unpack_toList]

theorem qq_neqS {x y : Operand} {t u : TypeId} {l m a' b' : Nat} (ho : o.op = .binOp .neq t x y u)
    (hx : evalV σ x = .ps l a') (hy : evalV σ y = .ps m b') : QQ ρ P σ C o (.bool !(Nat.beq l m && Nat.beq a' b')) := by
  intro X T a w h
  obtain ⟨e1, g1⟩ := rep_ps (ev_rep h hx)
  obtain ⟨e2, g2⟩ := rep_ps (ev_rep h hy)
  refine ⟨_, .pure (.bool _), fun w' hw hsm => ?_⟩
  rw [← bytes_eq g1 g2]
  simp [execOp, ho, e1, e2, eqGuard, binOp, Op.stringOp, unpack_toList]

theorem unpack_append {l m a b : Nat} (ha : a < 256 ^ l) : unpack l a ++ unpack m b = unpack (l + m) (a + b * 256 ^ l) := by
  unfold unpack
  rw [bytesL_append l m a b ha]
  apply ByteArray.ext
  show ((⟨⟨bytesL l a⟩⟩ : ByteArray) ++ (⟨⟨bytesL m b⟩⟩ : ByteArray)).data = _
  rw [ByteArray.data_append]
  simp

theorem qq_cat {x y : Operand} {t u : TypeId} {l m a' b' : Nat} (ho : o.op = .binOp .add t x y u)
    (hx : evalV σ x = .ps l a') (hy : evalV σ y = .ps m b') (hn : l + m ≤ 9223372036854775807) : QQ ρ P σ C o (.ps (l + m) (a' + b' * 256 ^ l)) := by
  intro X T a w h
  obtain ⟨e1, g1⟩ := rep_ps (ev_rep h hx)
  obtain ⟨e2, g2⟩ := rep_ps (ev_rep h hy)
  refine ⟨_, .pure (.ps _ _ ?_), fun w' hw hsm => ?_⟩
  · have hp : 0 < 256 ^ l := Nat.pos_of_ne_zero (by simp)
    have h1 : (b' + 1) * 256 ^ l ≤ 256 ^ m * 256 ^ l := Nat.mul_le_mul_right _ g2
    rw [Nat.add_mul, Nat.one_mul] at h1
    rw [Nat.pow_add, Nat.mul_comm (256 ^ l)]
    omega
  · rw [← unpack_append g1]
    have : ((unpack l a').size + (unpack m b').size : Nat) ≤ 9223372036854775807 := by simpa [unpack_size] using hn
    simp [execOp, ho, e1, e2, eqGuard, binOp, Op.stringOp, unpack_size]
    omega

theorem qq_eqlB {x y : Operand} {t u : TypeId} {ti : TI} {p q : Bool} (ho : o.op = .binOp .eql t x y u) (hx : evalV σ x = .bool p) (hy : evalV σ y = .bool q)
    (ht : TyOK P t ti) (hs : ti.sh = .bool) : QQ ρ P σ C o (.bool (p == q)) := by
  intro X T a w h
  have e1 := rep_bool (ev_rep h hx)
  have e2 := rep_bool (ev_rep h hy)
  refine ⟨_, .pure (.bool _), fun w' hw hsm => ?_⟩
  have := run_equal_bool (P := P) w' t p q (bool_of ht hs)
  simp [execOp, ho, e1, e2, eqGuard, binOp, this]

theorem qq_neqB {x y : Operand} {t u : TypeId} {ti : TI} {p q : Bool} (ho : o.op = .binOp .neq t x y u) (hx : evalV σ x = .bool p) (hy : evalV σ y = .bool q)
    (ht : TyOK P t ti) (hs : ti.sh = .bool) : QQ ρ P σ C o (.bool !(p == q)) := by
  intro X T a w h
  have e1 := rep_bool (ev_rep h hx)
  have e2 := rep_bool (ev_rep h hy)
  refine ⟨_, .pure (.bool _), fun w' hw hsm => ?_⟩
  have := run_equal_bool (P := P) w' t p q (bool_of ht hs)
  simp [execOp, ho, e1, e2, eqGuard, binOp, this]

/-- A slice held against nil. -/
def V.nilS : V → Option Bool
  | .sc (.slice none 0 0) => some true
  | .sl _ _ _ _ => some false
  | .ro _ (_ :: _) => some false
  | _ => none

theorem nilS_run {w : World} {L : Nat → Prop} {T : Tab} {v : V} {x : Value} {p : Bool} (hr : Rep ρ w L T v x) (hv : v.nilS = some p) : ∃ b l c, x = .slice b l c ∧ b.isNone = p := by
  unfold V.nilS at hv
  split at hv
  · cases hv
    exact ⟨_, _, _, rep_sc hr, rfl⟩
  · cases hv
    obtain ⟨p, at_, cap, _, _, _, _, _, e⟩ := rep_sl hr
    exact ⟨_, _, _, e, rfl⟩
  · cases hv
    rcases rep_ro hr with ⟨_, e⟩ | ⟨b, o, cap, val, e, _⟩
    · cases e
    · exact ⟨_, _, _, e, rfl⟩
  · cases hv

theorem qq_eqlNil {x y : Operand} {t u : TypeId} {ti : TI} {e es eb : Nat} {v : V} {p : Bool} (ho : o.op = .binOp .eql t x y u) (hx : evalV σ x = v) (hv : v.nilS = some p)
    (hy : evalV σ y = .sc (.slice none 0 0)) (ht : TyOK P t ti) (hs : ti.sh = .slice e es eb) : QQ ρ P σ C o (.bool p) := by
  intro X T a w h
  obtain ⟨b, l, c, e1, e3⟩ := nilS_run (ev_rep h hx) hv
  have e2 := rep_sc (ev_rep h hy)
  refine ⟨_, .pure (.bool _), fun w' hw hsm => ?_⟩
  have := run_equal_slice_nil (P := P) w' t e b l c (slice_of ht hs).1
  rw [e3] at this
  simp [execOp, ho, e1, e2, eqGuard, binOp, this]

theorem qq_neqNil {x y : Operand} {t u : TypeId} {ti : TI} {e es eb : Nat} {v : V} {p : Bool} (ho : o.op = .binOp .neq t x y u) (hx : evalV σ x = v) (hv : v.nilS = some p)
    (hy : evalV σ y = .sc (.slice none 0 0)) (ht : TyOK P t ti) (hs : ti.sh = .slice e es eb) : QQ ρ P σ C o (.bool !p) := by
  intro X T a w h
  obtain ⟨b, l, c, e1, e3⟩ := nilS_run (ev_rep h hx) hv
  have e2 := rep_sc (ev_rep h hy)
  refine ⟨_, .pure (.bool _), fun w' hw hsm => ?_⟩
  have := run_equal_slice_nil (P := P) w' t e b l c (slice_of ht hs).1
  rw [e3] at this
  simp [execOp, ho, e1, e2, eqGuard, binOp, this]

end quiet
end Go.Proofs.YtjljgldgkkfckaaDoor.M
