/- The operations that only look, one by one. -/
import Derived.Test.YtohchoelhnipmaaQOps
namespace Go.Proofs.Ytohchoelhnipmaa.Q
open Go Go.RowKit
set_option linter.unusedSimpArgs false
set_option linter.unusedVariables false

section inversions
variable {w : World} {L : Nat → Prop} {T : Tab} {x : Value}

theorem rep_sc {v : Value} (h : Rep w L T (.sc v) x) : x = v := by
  cases h with
  | pure h => cases h; rfl

theorem rep_ptr {k r c : Nat} (h : Rep w L T (.ptr k r c) x) : ∃ b s, T[k]? = some (b, s) ∧ x = .pointer (some ⟨b, r * s + c, none⟩) := by
  cases h with
  | pure h => cases h
  | ptr _ _ _ b s h => exact ⟨b, s, h, rfl⟩

theorem rep_sl {k off len : Nat} (h : Rep w L T (.sl k off len) x) : ∃ b s cap, T[k]? = some (b, s) ∧ len ≤ cap ∧
    (∃ C t, w.heap[b]? = some (.cells C t (0, 0)) ∧ (off + cap) * s ≤ C.size) ∧ x = .slice (some ⟨b, off * s, none⟩) len cap := by
  cases h with
  | pure h => cases h
  | sl _ _ _ cap b s h hc hr => exact ⟨b, s, cap, h, hc, hr, rfl⟩

theorem rep_fn {f : Fn} {l : List V} (h : Rep w L T (.fn f l) x) : ∃ vs : Array Value, x = .func f #[] vs ∧ vs.size = l.length ∧
    ∀ (i : Nat) (q : V), l[i]? = some q → Rep w L T q (vs.getD i undef) := by
  cases h with
  | pure h => cases h
  | fn _ _ vs hs h => exact ⟨vs, rfl, hs, h⟩

theorem rep_agg {l : List V} (h : Rep w L T (.agg l) x) : ∃ vs : Array Value, x = .agg vs ∧ vs.size = l.length ∧
    ∀ (i : Nat) (q : V), l[i]? = some q → Rep w L T q (vs.getD i undef) := by
  cases h with
  | pure h => cases h
  | agg _ vs hs h => exact ⟨vs, rfl, hs, h⟩

theorem rep_tup {l : List V} (h : Rep w L T (.tup l) x) : ∃ vs : Array Value, x = .tuple vs ∧ vs.size = l.length ∧
    ∀ (i : Nat) (q : V), l[i]? = some q → Rep w L T q (vs.getD i undef) := by
  cases h with
  | pure h => cases h
  | tup _ vs hs h => exact ⟨vs, rfl, hs, h⟩

theorem rep_pro {cells : List V} (h : Rep w L T (.pro cells) x) : ∃ (b o : Nat) (val : Nat → Value), x = .pointer (some ⟨b, o, none⟩) ∧ ¬ L b ∧ b < w.heap.size ∧ (∀ q ∈ cells, q.one = true) ∧
    (∀ (c : Nat) (q : V), cells[c]? = some q → w.cell? ⟨b, o + c, none⟩ = some (val c)) ∧ (∀ (c : Nat) (q : V), cells[c]? = some q → RepP w L q (val c)) := by
  cases h with
  | pure h => cases h with
    | pro _ b o val h1 h2 h3 h4 h5 => exact ⟨b, o, val, rfl, h1, h2, h3, h4, h5⟩

/-- A slice that nobody writes: nil, or rows in a block. -/
theorem rep_ro {s : Nat} {rows : List (List V)} (h : Rep w L T (.ro s rows) x) :
    (x = .slice none 0 0 ∧ rows = []) ∨ ∃ (b o cap : Nat) (val : Nat → Nat → Value), x = .slice (some ⟨b, o, none⟩) rows.length cap ∧ ¬ L b ∧ b < w.heap.size ∧ rows.length ≤ cap ∧ (∀ row ∈ rows, row.length = s ∧ ∀ q ∈ row, q.one = true) ∧
    (∀ (r : Nat) (row : List V), rows[r]? = some row → ∀ (c : Nat) (q : V), row[c]? = some q → w.cell? ⟨b, o + (r * s + c), none⟩ = some (val r c)) ∧
    (∀ (r : Nat) (row : List V), rows[r]? = some row → ∀ (c : Nat) (q : V), row[c]? = some q → RepP w L q (val r c)) := by
  cases h with
  | pure h => cases h with
    | nil => exact .inl ⟨rfl, rfl⟩
    | ro _ _ b o cap val h1 h2 h3 h4 h5 h6 => exact .inr ⟨b, o, cap, val, rfl, h1, h2, h3, h4, h5, h6⟩
end inversions

theorem not_rm_of_not_live {A : Nat → Prop} {T : Tab} {objs : Objs} {rm : List Nat} {b : Nat} (h : ¬ Live A T objs b) : ¬ rmB T objs rm b :=
  fun ⟨k, ob, s, _, h1, h2⟩ => h (.inr ⟨k, ob, s, h1, h2⟩)

theorem not_rm_of_obj {w : World} {A : Nat → Prop} {T : Tab} {objs : Objs} (hm : HoldsM w A T objs) {rm : List Nat} {k b s : Nat} {ob : Ob}
    (ho : objs[k]? = some (some ob)) (hT : T[k]? = some (b, s)) (hk : k ∉ rm) : ¬ rmB T objs rm b := by
  rintro ⟨j, ob', s', hj, h1, h2⟩
  have := hm.inj k j ob ob' b s s' ho h1 hT h2
  subst this
  exact hk hj

theorem getD_of {vs : Array Value} {i : Nat} {y d : Value} (h : vs[i]? = some y) : vs.getD i d = y := by
  rw [Array.getD_eq_getD_getElem?, h]; rfl

def evalL (σ : St) : List Operand → Option (List V)
  | [] => some []
  | x :: xs => match evalV σ x, evalL σ xs with
    | some v, some l => some (v :: l)
    | _, _ => none

theorem evalL_some {σ : St} : ∀ {xs : List Operand} {l : List V}, evalL σ xs = some l → l.length = xs.length ∧
    ∀ (i : Nat) (q : V), l[i]? = some q → ∃ x, xs[i]? = some x ∧ evalV σ x = some q
  | [], l, h => by cases h; exact ⟨rfl, fun i q hq => by simp at hq⟩
  | x :: xs, l, h => by
    unfold evalL at h
    split at h
    · rename_i v l' hv hl
      cases h
      obtain ⟨h1, h2⟩ := evalL_some hl
      refine ⟨by simp [h1], fun i q hq => ?_⟩
      cases i with
      | zero => simp at hq; subst hq; exact ⟨x, rfl, hv⟩
      | succ i => simp at hq; obtain ⟨y, h3, h4⟩ := h2 i q hq; exact ⟨y, by simpa using h3, h4⟩
    · cases h

section quiet
variable {P : Program} {σ : St} {rm : List Nat} {o : Oper}

theorem qq_move {x : Operand} {v : V} (ho : o.op = .move x ∨ o.op = .assign x) (hv : evalV σ x = some v) : QQ P σ rm o v := by
  intro X T a w h
  refine ⟨a.eval x, eval_rep h hv, fun w' _ => ?_⟩
  rcases ho with ho | ho <;> simp [execOp, ho]

theorem qq_pick {c x y : Operand} {t : Bool} {v : V} (ho : o.op = .pick c x y) (hc : evalV σ c = some (.sc (.bool t)))
    (hv : (match t with | true => evalV σ x | false => evalV σ y) = some v) : QQ P σ rm o v := by
  intro X T a w h
  have hb := rep_sc (eval_rep h hc)
  cases t with
  | true =>
    refine ⟨a.eval x, eval_rep h hv, fun w' _ => ?_⟩
    simp [execOp, ho, hb, asBool]
  | false =>
    refine ⟨a.eval y, eval_rep h hv, fun w' _ => ?_⟩
    simp [execOp, ho, hb, asBool]

theorem qq_nilCheck {x : Operand} {v : V} (ho : o.op = .nilCheck x) (hv : evalV σ x = some v)
    (hn : (match v with | .ptr _ _ _ | .pro _ => true | .fn (.func _) _ => true | _ => false) = true) : QQ P σ rm o v := by
  intro X T a w h
  have hr := eval_rep h hv
  refine ⟨a.eval x, hr, fun w' _ => ?_⟩
  cases v with
  | ptr k r c => obtain ⟨b, s, _, e⟩ := rep_ptr hr; simp [execOp, ho, e]
  | pro cells => obtain ⟨b, s, _, e, _⟩ := rep_pro hr; simp [execOp, ho, e]
  | fn f l =>
    obtain ⟨vs, e, _⟩ := rep_fn hr
    cases f with
    | func g => simp [execOp, ho, e]
    | _ => simp at hn
  | _ => simp at hn

theorem qq_extract {x : Operand} {i : Nat} {l : List V} {v : V} (ho : o.op = .extract x i) (hx : evalV σ x = some (.tup l)) (hv : l[i]? = some v) : QQ P σ rm o v := by
  intro X T a w h
  obtain ⟨vs, e, hs, hr⟩ := rep_tup (eval_rep h hx)
  have hi : i < l.length := by
    rcases Nat.lt_or_ge i l.length with g | g
    · exact g
    · rw [List.getElem?_eq_none g] at hv; cases hv
  have hg := hr i v hv
  obtain ⟨y, hy⟩ : ∃ y, vs[i]? = some y := ⟨_, Array.getElem?_eq_getElem (show i < vs.size by omega)⟩
  rw [getD_of hy] at hg
  refine ⟨y, hg, fun w' _ => ?_⟩
  simp [execOp, ho, e, Instr.extract, hy]

theorem qq_not {x : Operand} {t : Bool} (ho : ∃ ty, o.op = .unOp .not ty x) (hx : evalV σ x = some (.sc (.bool t))) : QQ P σ rm o (.sc (.bool (!t))) := by
  intro X T a w h
  obtain ⟨ty, ho⟩ := ho
  have hb := rep_sc (eval_rep h hx)
  refine ⟨.bool (!t), .pure (.sc _), fun w' _ => ?_⟩
  simp [execOp, ho, hb, Op.unary]

theorem qq_makeFunc {f : Fn} {caps : Array Operand} {l : List V} (ho : o.op = .makeFunc f #[] caps) (hl : evalL σ caps.toList = some l) : QQ P σ rm o (.fn f l) := by
  intro X T a w h
  obtain ⟨h1, h2⟩ := evalL_some hl
  refine ⟨.func f #[] (caps.map a.eval), .fn f l _ (by simpa using h1.symm) ?_, fun w' _ => by simp [execOp, ho, Instr.makeFunc]⟩
  intro i q hq
  obtain ⟨x, h3, h4⟩ := h2 i q hq
  have h5 : (caps.map a.eval)[i]? = some (a.eval x) := by simp at h3; simp [h3]
  rw [getD_of h5]
  exact eval_rep h h4

theorem qq_fieldAddr_ptr {x : Operand} {t : TypeId} {i : Nat} {ti : TI} {fs : List (Nat × Nat × Bool)} {off n : Nat} {g : Bool} {k r c : Nat} (ho : o.op = .fieldAddr t x i)
    (hx : evalV σ x = some (.ptr k r c)) (ht : TyOK P t ti) (hs : ti.sh = .struct fs) (hi : fs[i]? = some (off, n, g)) (hn : n ≠ 0) :
    QQ P σ rm o (.ptr k r (c + off)) := by
  intro X T a w h
  obtain ⟨b, s, h1, e⟩ := rep_ptr (eval_rep h hx)
  obtain ⟨F, hF, hall⟩ := struct_of ht hs
  obtain ⟨f, j, d, h2, h3, h4, h5, h6, h7⟩ := hall i off n g hi
  refine ⟨.pointer (some ⟨b, r * s + (c + off), none⟩), .ptr k r (c + off) b s h1, fun w' _ => ?_⟩
  have hz : j.size ≠ 0 := by omega
  simp [execOp, ho, e, Instr.fieldAt, run_underlying hF, h2, Instr.sureAddr, fieldPlace, Go.sizeOf, typeInfo, h4, hz, add_at, h3, Nat.add_assoc]

theorem qq_fieldAddr_pro {x : Operand} {t : TypeId} {i : Nat} {ti : TI} {fs : List (Nat × Nat × Bool)} {off n : Nat} {g : Bool} {cells : List V} (ho : o.op = .fieldAddr t x i)
    (hx : evalV σ x = some (.pro cells)) (ht : TyOK P t ti) (hs : ti.sh = .struct fs) (hi : fs[i]? = some (off, n, g)) (hn : n ≠ 0) :
    QQ P σ rm o (.pro (cells.drop off)) := by
  intro X T a w h
  obtain ⟨b, p, val, e, h1, h1', h1o, hc, hr⟩ := rep_pro (eval_rep h hx)
  obtain ⟨F, hF, hall⟩ := struct_of ht hs
  obtain ⟨f, j, d, h2, h3, h4, h5, h6, h7⟩ := hall i off n g hi
  refine ⟨.pointer (some ⟨b, p + off, none⟩), .pure (.pro _ b (p + off) (fun c => val (off + c)) h1 h1' (fun q hq => h1o q (List.mem_of_mem_drop hq)) ?_ ?_), fun w' _ => ?_⟩
  · intro c q hq
    rw [List.getElem?_drop] at hq
    rw [← hc _ q hq, Nat.add_assoc]
  · intro c q hq
    rw [List.getElem?_drop] at hq
    exact hr _ q hq
  · have hz : j.size ≠ 0 := by omega
    simp [execOp, ho, e, Instr.fieldAt, run_underlying hF, h2, Instr.sureAddr, fieldPlace, Go.sizeOf, typeInfo, h4, hz, add_at, h3]

/-- The cells of an object's row, one by one. -/
theorem row_cells {X : Ctx} {T : Tab} {a : Act} {w : World} (h : HoldsT X T σ a w) {k r : Nat} {ob : Ob} {row : List V} (ho : σ.objs[k]? = some (some ob)) (hr : ob.rows[r]? = some row) :
    ∃ b, T[k]? = some (b, ob.s) ∧ row.length = ob.s ∧ (∀ q ∈ row, q.one = true) ∧
      ∀ (c : Nat) (q : V), row[c]? = some q → ∃ v, w.cell? ⟨b, r * ob.s + c, none⟩ = some v ∧ Rep w (Live X.A T σ.objs) T q v := by
  obtain ⟨b, hT, hA, C, t, hb, hrows, hcells⟩ := h.mem.obj k ob ho
  refine ⟨b, hT, (hrows row (List.mem_of_getElem? hr)).1, (hrows row (List.mem_of_getElem? hr)).2, fun c q hq => ?_⟩
  obtain ⟨v, hv, hrep⟩ := hcells r row hr c q hq
  exact ⟨v, by simp [World.cell?, hb, hv], hrep⟩

theorem qq_load_word {x : Operand} {t : TypeId} {ti : TI} {k r c : Nat} {ob : Ob} {row : List V} {q : V} (ho : o.op = .load t x)
    (hx : evalV σ x = some (.ptr k r c)) (ht : TyOK P t ti) (hs : ti.sh.agg = false) (hk : k ∉ rm) (hob : σ.objs[k]? = some (some ob)) (hrow : ob.rows[r]? = some row) (hq : row[c]? = some q) :
    QQ P σ rm o q := by
  intro X T a w h
  obtain ⟨b, s, h1, e⟩ := rep_ptr (eval_rep h hx)
  obtain ⟨b', hT, hlen, hone, hcells⟩ := row_cells h hob hrow
  rw [hT] at h1
  cases h1
  obtain ⟨v, hv, hrep⟩ := hcells c q hq
  refine ⟨v, hrep, fun w' hw => ?_⟩
  have hv' := cell_stab hw hv (not_rm_of_obj h.mem hob hT hk)
  simp [execOp, ho, e, Instr.loadAt, Instr.sureAddr, loadVar, ht.isAgg, hs, hv']

theorem cells_fn {w : World} {b p : Nat} {l : List V} {R : V → Value → Prop} (hl : ∀ (c : Nat) (q : V), l[c]? = some q → ∃ v, w.cell? ⟨b, p + c, none⟩ = some v ∧ R q v) :
    ∃ val : Nat → Value, ∀ (c : Nat) (q : V), l[c]? = some q → w.cell? ⟨b, p + c, none⟩ = some (val c) ∧ R q (val c) := by
  refine ⟨fun c => if hc : c < l.length then (hl c l[c] (List.getElem?_eq_getElem hc)).choose else undef, fun c q hq => ?_⟩
  have hc : c < l.length := by
    rcases Nat.lt_or_ge c l.length with g | g
    · exact g
    · rw [List.getElem?_eq_none g] at hq; cases hq
  have hq' : q = l[c] := by rw [List.getElem?_eq_getElem hc] at hq; cases hq; rfl
  subst hq'
  simp only [hc, dif_pos]
  exact (hl c l[c] (List.getElem?_eq_getElem hc)).choose_spec

theorem made_list {l : List V} {n : Nat} (hn : l.length = n) {val : Nat → Value} {R : V → Value → Prop} (h : ∀ (c : Nat) (q : V), l[c]? = some q → R q (val c)) :
    (((List.range n).map val).toArray).size = l.length ∧ ∀ (i : Nat) (q : V), l[i]? = some q → R q ((((List.range n).map val).toArray).getD i undef) := by
  refine ⟨by simp [hn], fun i q hq => ?_⟩
  have hi : i < n := by
    rcases Nat.lt_or_ge i l.length with g | g
    · omega
    · rw [List.getElem?_eq_none g] at hq; cases hq
  have : (((List.range n).map val).toArray)[i]? = some (val i) := by simp [hi]
  rw [getD_of this]
  exact h i q hq

theorem lt_of_some {l : List V} {i : Nat} {q : V} (h : l[i]? = some q) : i < l.length := by
  rcases Nat.lt_or_ge i l.length with g | g
  · exact g
  · rw [List.getElem?_eq_none g] at h; cases h

theorem sub_cells {row l : List V} {c n : Nat} (hl : (row.drop c).take n = l) (i : Nat) (q : V) (hq : l[i]? = some q) : row[c + i]? = some q := by
  rw [← hl, List.getElem?_take] at hq
  split at hq
  · rwa [List.getElem?_drop] at hq
  · cases hq

theorem qq_load_agg {x : Operand} {t : TypeId} {ti : TI} {k r c : Nat} {ob : Ob} {row l : List V} (ho : o.op = .load t x)
    (hx : evalV σ x = some (.ptr k r c)) (ht : TyOK P t ti) (hs : ti.sh.agg = true) (hk : k ∉ rm) (hob : σ.objs[k]? = some (some ob)) (hrow : ob.rows[r]? = some row)
    (hl : (row.drop c).take ti.size = l) (hn : l.length = ti.size) : QQ P σ rm o (.agg l) := by
  intro X T a w h
  obtain ⟨b, s, h1, e⟩ := rep_ptr (eval_rep h hx)
  obtain ⟨b', hT, hlen, hone, hcells⟩ := row_cells h hob hrow
  rw [hT] at h1
  injection h1 with h1
  injection h1 with hb hs'
  subst hb hs'
  obtain ⟨val, hval⟩ := cells_fn (w := w) (b := b') (p := r * ob.s + c) (l := l) (R := Rep w (Live X.A T σ.objs) T)
    (fun i q hq => by rw [Nat.add_assoc]; exact hcells _ q (sub_cells hl i q hq))
  obtain ⟨g1, g2⟩ := made_list hn (R := Rep w (Live X.A T σ.objs) T) (val := val) (fun i q hq => (hval i q hq).2)
  refine ⟨_, .agg l _ g1 g2, fun w' hw => ?_⟩
  have hrun := run_loadCells (P := P) w' ⟨b', r * ob.s + c, none⟩ ti.size val (fun j hj => by
    have hq : l[j]? = some l[j] := List.getElem?_eq_getElem (by omega)
    rw [add_at]
    exact cell_stab hw (hval j _ hq).1 (not_rm_of_obj h.mem hob hT hk))
  simp [execOp, ho, e, Instr.loadAt, Instr.sureAddr, loadVar, ht.isAgg, hs, ht.sizeOf, hrun]

theorem qq_load_word_pro {x : Operand} {t : TypeId} {ti : TI} {cells : List V} {q : V} (ho : o.op = .load t x)
    (hx : evalV σ x = some (.pro cells)) (ht : TyOK P t ti) (hs : ti.sh.agg = false) (hq : cells[0]? = some q) : QQ P σ rm o q := by
  intro X T a w h
  obtain ⟨b, p, val, e, h1, h1', h1o, hc, hr⟩ := rep_pro (eval_rep h hx)
  refine ⟨val 0, .pure (hr 0 q hq), fun w' hw => ?_⟩
  have hv' := cell_stab hw (hc 0 q hq) (not_rm_of_not_live h1)
  simp only [Nat.add_zero] at hv'
  simp [execOp, ho, e, Instr.loadAt, Instr.sureAddr, loadVar, ht.isAgg, hs, hv']

theorem qq_load_agg_pro {x : Operand} {t : TypeId} {ti : TI} {cells l : List V} (ho : o.op = .load t x)
    (hx : evalV σ x = some (.pro cells)) (ht : TyOK P t ti) (hs : ti.sh.agg = true) (hl : cells.take ti.size = l) (hn : l.length = ti.size) : QQ P σ rm o (.agg l) := by
  intro X T a w h
  obtain ⟨b, p, val, e, h1, h1', h1o, hc, hr⟩ := rep_pro (eval_rep h hx)
  have hsub : ∀ (i : Nat) (q : V), l[i]? = some q → cells[i]? = some q := fun i q hq => by
    have := sub_cells (row := cells) (c := 0) (by simpa using hl) i q hq
    simpa using this
  obtain ⟨g1, g2⟩ := made_list hn (R := Rep w (Live X.A T σ.objs) T) (val := val) (fun i q hq => .pure (hr i q (hsub i q hq)))
  refine ⟨_, .agg l _ g1 g2, fun w' hw => ?_⟩
  have hrun := run_loadCells (P := P) w' ⟨b, p, none⟩ ti.size val (fun j hj => by
    have hq : l[j]? = some l[j] := List.getElem?_eq_getElem (by omega)
    rw [add_at]
    exact cell_stab hw (hc j _ (hsub j _ hq)) (not_rm_of_not_live h1))
  simp [execOp, ho, e, Instr.loadAt, Instr.sureAddr, loadVar, ht.isAgg, hs, ht.sizeOf, hrun]

theorem qq_field_word {x : Operand} {t : TypeId} {i : Nat} {ti : TI} {fs : List (Nat × Nat × Bool)} {off n : Nat} {l : List V} {q : V} (ho : o.op = .field t x i)
    (hx : evalV σ x = some (.agg l)) (ht : TyOK P t ti) (hs : ti.sh = .struct fs) (hi : fs[i]? = some (off, n, false)) (hq : l[off]? = some q) : QQ P σ rm o q := by
  intro X T a w h
  obtain ⟨vs, e, h1, h2⟩ := rep_agg (eval_rep h hx)
  obtain ⟨F, hF, hall⟩ := struct_of ht hs
  obtain ⟨f, j, d, g2, g3, g4, g5, g6, g7⟩ := hall i off n false hi
  have hr := h2 off q hq
  obtain ⟨y, hy⟩ : ∃ y, vs[off]? = some y := ⟨_, Array.getElem?_eq_getElem (by have := lt_of_some hq; omega)⟩
  rw [getD_of hy] at hr
  refine ⟨y, hr, fun w' hw => ?_⟩
  have hagg : (isAgg f.type).run P w' = .ok false w' := by
    simp [Go.isAgg, underlying, g6]
    cases d <;> first | rfl | simp [isAggD] at g7
  simp [execOp, ho, e, Instr.field, run_underlying hF, g2, asAgg, part, hagg, g3, hy]

theorem qq_len_ro {x : Operand} {t : TypeId} {ti : TI} {e es eb s : Nat} {rows : List (List V)} (ho : ∃ args : Array Operand, o.op = .call { callee := .builtin .len, args := args, argTypes := #[t] } ∧ args = #[x])
    (hx : evalV σ x = some (.ro s rows)) (ht : TyOK P t ti) (hs : ti.sh = .slice e es eb) : QQ P σ rm o (.sc (.int .i64 rows.length)) := by
  intro X T a w h
  obtain ⟨args, ho, rfl⟩ := ho
  have hu := (slice_of ht hs).1
  refine ⟨.int .i64 rows.length, .pure (.sc _), fun w' hw => ?_⟩
  rcases rep_ro (eval_rep h hx) with ⟨e1, e2⟩ | ⟨b, p, cap, val, e1, _⟩
  · subst e2
    simp [execOp, ho, resolve, e1, invoke, builtin, Builtin.len_, run_underlying hu, goInt]
  · simp [execOp, ho, resolve, e1, invoke, builtin, Builtin.len_, run_underlying hu, goInt]

theorem qq_len_sl {x : Operand} {t : TypeId} {ti : TI} {e es eb k off len : Nat} (ho : ∃ args : Array Operand, o.op = .call { callee := .builtin .len, args := args, argTypes := #[t] } ∧ args = #[x])
    (hx : evalV σ x = some (.sl k off len)) (ht : TyOK P t ti) (hs : ti.sh = .slice e es eb) : QQ P σ rm o (.sc (.int .i64 len)) := by
  intro X T a w h
  obtain ⟨args, ho, rfl⟩ := ho
  have hu := (slice_of ht hs).1
  obtain ⟨b, s, cap, _, _, _, e1⟩ := rep_sl (eval_rep h hx)
  exact ⟨.int .i64 len, .pure (.sc _), fun w' hw => by simp [execOp, ho, resolve, e1, invoke, builtin, Builtin.len_, run_underlying hu, goInt]⟩

theorem qq_len_nil {x : Operand} {t : TypeId} {ti : TI} {e es eb : Nat} (ho : ∃ args : Array Operand, o.op = .call { callee := .builtin .len, args := args, argTypes := #[t] } ∧ args = #[x])
    (hx : evalV σ x = some (.sc (.slice none 0 0))) (ht : TyOK P t ti) (hs : ti.sh = .slice e es eb) : QQ P σ rm o (.sc (.int .i64 0)) := by
  intro X T a w h
  obtain ⟨args, ho, rfl⟩ := ho
  have hu := (slice_of ht hs).1
  have e1 := rep_sc (eval_rep h hx)
  exact ⟨.int .i64 0, .pure (.sc _), fun w' hw => by simp [execOp, ho, resolve, e1, invoke, builtin, Builtin.len_, run_underlying hu, goInt]⟩

theorem string_of {P : Program} {t : TypeId} {ti : TI} (h : TyOK P t ti) (hs : ti.sh = .string) : P.underlying t = some .string := by
  have h1 := h.sh
  unfold shOf at h1
  rw [hs] at h1
  cases hu : P.underlying t with
  | none => rw [hu] at h1; simp at h1
  | some d => rw [hu] at h1; cases d <;> simp at h1 <;> rfl

theorem int_of {P : Program} {t : TypeId} {ti : TI} (h : TyOK P t ti) {k : IntKind} (hs : ti.sh = .int k) : P.underlying t = some (.int k) := by
  have h1 := h.sh
  unfold shOf at h1
  rw [hs] at h1
  cases hu : P.underlying t with
  | none => rw [hu] at h1; simp at h1
  | some d => rw [hu] at h1; cases d <;> simp at h1 <;> simp [h1]

theorem bool_of {P : Program} {t : TypeId} {ti : TI} (h : TyOK P t ti) (hs : ti.sh = .bool) : P.underlying t = some .bool := by
  have h1 := h.sh
  unfold shOf at h1
  rw [hs] at h1
  cases hu : P.underlying t with
  | none => rw [hu] at h1; simp at h1
  | some d => rw [hu] at h1; cases d <;> simp at h1 <;> rfl

theorem qq_len_str {x : Operand} {t : TypeId} {ti : TI} {s : ByteArray} (ho : ∃ args : Array Operand, o.op = .call { callee := .builtin .len, args := args, argTypes := #[t] } ∧ args = #[x])
    (hx : evalV σ x = some (.sc (.string s))) (ht : TyOK P t ti) (hs : ti.sh = .string) : QQ P σ rm o (.sc (.int .i64 s.size)) := by
  intro X T a w h
  obtain ⟨args, ho, rfl⟩ := ho
  have hu := string_of ht hs
  have e1 := rep_sc (eval_rep h hx)
  exact ⟨.int .i64 s.size, .pure (.sc _), fun w' hw => by simp [execOp, ho, resolve, e1, invoke, builtin, Builtin.len_, run_underlying hu, goInt]⟩

theorem qq_indexAddr_sl {x y : Operand} {t : TypeId} {ti : TI} {e es eb k off len : Nat} {kd : IntKind} {i : Int} {ob : Ob} (ho : o.op = .indexAddr t x y)
    (hx : evalV σ x = some (.sl k off len)) (hy : evalV σ y = some (.sc (.int kd i))) (ht : TyOK P t ti) (hs : ti.sh = .slice e es eb)
    (hob : σ.objs[k]? = some (some ob)) (hst : ob.s = es) (h0 : 0 ≤ i) (hi : i < len) : QQ P σ rm o (.ptr k (off + i.toNat) 0) := by
  intro X T a w h
  obtain ⟨hu, j, hj, hjs, hjb⟩ := slice_of ht hs
  obtain ⟨b, s, cap, hT, hc, hroom, e1⟩ := rep_sl (eval_rep h hx)
  have e2 := rep_sc (eval_rep h hy)
  obtain ⟨b', hT', _⟩ := h.mem.obj k ob hob
  rw [hT] at hT'
  injection hT' with hT'
  injection hT' with g1 g2
  refine ⟨.pointer (some ⟨b, (off + i.toNat) * s + 0, none⟩), .ptr k _ 0 b s hT, fun w' hw => ?_⟩
  have hes : j.size = s := by omega
  simp [execOp, ho, e1, e2, Instr.indexAt, asIntOf, run_underlying hu, Go.sizeOf, typeInfo, hj, hes, h0, hi, add_at, Nat.add_mul]

theorem qq_indexAddr_ro {x y : Operand} {t : TypeId} {ti : TI} {e es eb : Nat} {kd : IntKind} {i : Int} {rows : List (List V)} {row : List V} (ho : o.op = .indexAddr t x y)
    (hx : evalV σ x = some (.ro es rows)) (hy : evalV σ y = some (.sc (.int kd i))) (ht : TyOK P t ti) (hs : ti.sh = .slice e es eb)
    (h0 : 0 ≤ i) (hrow : rows[i.toNat]? = some row) : QQ P σ rm o (.pro row) := by
  intro X T a w h
  obtain ⟨hu, j, hj, hjs, hjb⟩ := slice_of ht hs
  have e2 := rep_sc (eval_rep h hy)
  have hlt : i.toNat < rows.length := by
    rcases Nat.lt_or_ge i.toNat rows.length with g | g
    · exact g
    · rw [List.getElem?_eq_none g] at hrow; cases hrow
  rcases rep_ro (eval_rep h hx) with ⟨e1, g2⟩ | ⟨b, p, cap, val, e1, h1, h2, h3, h4, h5, h6⟩
  · subst g2; simp at hlt
  · refine ⟨.pointer (some ⟨b, p + i.toNat * es, none⟩), .pure (.pro _ b _ (fun c => val i.toNat c) h1 h2 (h4 row (List.mem_of_getElem? hrow)).2 ?_ ?_), fun w' hw => ?_⟩
    · intro c q hq
      rw [Nat.add_assoc]
      exact h5 _ row hrow c q hq
    · exact fun c q hq => h6 _ row hrow c q hq
    · have hi : i < (rows.length : Int) := by omega
      simp [execOp, ho, e1, e2, Instr.indexAt, asIntOf, run_underlying hu, Go.sizeOf, typeInfo, hj, hjs, h0, hi, add_at]

theorem qq_index_str {x y : Operand} {t : TypeId} {ti : TI} {kd : IntKind} {i : Int} {s : ByteArray} {c : UInt8} (ho : o.op = .index t x y)
    (hx : evalV σ x = some (.sc (.string s))) (hy : evalV σ y = some (.sc (.int kd i))) (ht : TyOK P t ti) (hs : ti.sh = .string)
    (h0 : 0 ≤ i) (hc : s[i.toNat]? = some c) : QQ P σ rm o (.sc (.int .u8 c.toNat)) := by
  intro X T a w h
  have hu := string_of ht hs
  have e1 := rep_sc (eval_rep h hx)
  have e2 := rep_sc (eval_rep h hy)
  exact ⟨.int .u8 c.toNat, .pure (.sc _), fun w' hw => by simp [execOp, ho, e1, e2, Instr.index, asIntOf, run_underlying hu, h0, hc]⟩

/-- Of two whole numbers. -/
def binI (op : BinOp) (k : IntKind) (x y : Int) : Option Value :=
  match op with
  | .add => some (.int k (k.wrap (x + y)))
  | .sub => some (.int k (k.wrap (x - y)))
  | .mul => some (.int k (k.wrap (x * y)))
  | .eql => some (.bool (x == y))
  | .neq => some (.bool (x != y))
  | .lss => some (.bool (decide (x < y)))
  | .leq => some (.bool (decide (x ≤ y)))
  | .gtr => some (.bool (decide (x > y)))
  | .geq => some (.bool (decide (x ≥ y)))
  | _ => none

theorem qq_binI {op : BinOp} {x y : Operand} {t u : TypeId} {k : IntKind} {m n : Int} {v : Value} (ho : o.op = .binOp op t x y u)
    (hx : evalV σ x = some (.sc (.int k m))) (hy : evalV σ y = some (.sc (.int k n))) (hv : binI op k m n = some v) : QQ P σ rm o (.sc v) := by
  intro X T a w h
  have e1 := rep_sc (eval_rep h hx)
  have e2 := rep_sc (eval_rep h hy)
  refine ⟨v, .pure (.sc _), fun w' hw => ?_⟩
  cases op <;> simp [binI] at hv <;> subst hv <;> simp [execOp, ho, e1, e2, eqGuard, binOp, Op.intArith, Op.intCmp]

theorem qq_quo {x y : Operand} {t u : TypeId} {k : IntKind} {m n : Int} (ho : o.op = .binOp .quo t x y u)
    (hx : evalV σ x = some (.sc (.int k m))) (hy : evalV σ y = some (.sc (.int k n))) (hn : n ≠ 0) : QQ P σ rm o (.sc (.int k (k.wrap (m.tdiv n)))) := by
  intro X T a w h
  have e1 := rep_sc (eval_rep h hx)
  have e2 := rep_sc (eval_rep h hy)
  exact ⟨_, .pure (.sc _), fun w' hw => by simp [execOp, ho, e1, e2, eqGuard, binOp, Op.intDiv, hn]⟩

theorem qq_rem {x y : Operand} {t u : TypeId} {k : IntKind} {m n : Int} (ho : o.op = .binOp .rem t x y u)
    (hx : evalV σ x = some (.sc (.int k m))) (hy : evalV σ y = some (.sc (.int k n))) (hn : n ≠ 0) : QQ P σ rm o (.sc (.int k (m.tmod n))) := by
  intro X T a w h
  have e1 := rep_sc (eval_rep h hx)
  have e2 := rep_sc (eval_rep h hy)
  exact ⟨_, .pure (.sc _), fun w' hw => by simp [execOp, ho, e1, e2, eqGuard, binOp, Op.intDiv, hn]⟩

/-- Of two texts. -/
def binS (op : BinOp) (x y : ByteArray) : Option Value :=
  match op with
  | .eql => some (.bool (x.toList == y.toList))
  | .neq => some (.bool !(x.toList == y.toList))
  | .lss => some (.bool (Op.bytesLess x.toList y.toList))
  | .geq => some (.bool !(Op.bytesLess x.toList y.toList))
  | _ => none

theorem qq_binS {op : BinOp} {x y : Operand} {t u : TypeId} {m n : ByteArray} {v : Value} (ho : o.op = .binOp op t x y u)
    (hx : evalV σ x = some (.sc (.string m))) (hy : evalV σ y = some (.sc (.string n))) (hv : binS op m n = some v) : QQ P σ rm o (.sc v) := by
  intro X T a w h
  have e1 := rep_sc (eval_rep h hx)
  have e2 := rep_sc (eval_rep h hy)
  refine ⟨v, .pure (.sc _), fun w' hw => ?_⟩
  cases op <;> simp [binS] at hv <;> subst hv <;> simp [execOp, ho, e1, e2, eqGuard, binOp, Op.stringOp]

theorem qq_cat {x y : Operand} {t u : TypeId} {m n : ByteArray} (ho : o.op = .binOp .add t x y u)
    (hx : evalV σ x = some (.sc (.string m))) (hy : evalV σ y = some (.sc (.string n))) (hn : m.size + n.size ≤ 9223372036854775807) : QQ P σ rm o (.sc (.string (m ++ n))) := by
  intro X T a w h
  have e1 := rep_sc (eval_rep h hx)
  have e2 := rep_sc (eval_rep h hy)
  refine ⟨_, .pure (.sc _), fun w' hw => ?_⟩
  simp [execOp, ho, e1, e2, eqGuard, binOp, Op.stringOp]
  omega

theorem qq_convert_int {x : Operand} {t u : TypeId} {ti tj : TI} {k k' : IntKind} {n : Int} (ho : o.op = .convert t u x) (hx : evalV σ x = some (.sc (.int k n)))
    (ht : TyOK P t ti) (hs : ti.sh = .int k') (hu : TyOK P u tj) (hs' : tj.sh = .int k) : QQ P σ rm o (.sc (.int k (k.wrap n))) := by
  intro X T a w h
  have e1 := rep_sc (eval_rep h hx)
  refine ⟨_, .pure (.sc _), fun w' hw => ?_⟩
  simp [execOp, ho, e1, convert, run_underlying (int_of ht hs), run_underlying (int_of hu hs'), Conv.intToInt]

end quiet

end Go.Proofs.Ytohchoelhnipmaa.Q
