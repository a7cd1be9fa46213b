/- append. -/
import Derived.Test.YtjljgldgkkfckaaDoorMLoud
import Derived.Laws.AppendOwn
namespace Go.Proofs.YtjljgldgkkfckaaDoor.M
open Go Go.RowKit
set_option linter.unusedSimpArgs false
set_option linter.unusedVariables false

variable {ρ : Nat → Value} {P : Program} {σ : St} {K : Ex → St → Prop}

/-- The rows of a slice: how many, and each one. -/
def srcOf (σ : St) (s : Nat) : V → Option (Nat × (Nat → Option (List V)))
  | .ro s' rows => match Nat.beq s' s with
    | true => some (rows.length, fun r => rows[r]?)
    | false => none
  | .sc (.slice none 0 _) => some (0, fun _ => none)
  | .sl k off len _ => match σ.objs k with
    | some ob => match Nat.beq ob.s s with
      | true => some (len, fun r => ob.row (off + r))
      | false => none
    | none => none
  | _ => none

/-- Rows as cells. -/
theorem flat_fn {s n : Nat} {w : World} {b o : Nat} {f : Nat → Option (List V)} {R : V → Value → Prop} (hs : 0 < s) (hall : ∀ r, r < n → ∃ row, f r = some row ∧ row.length = s ∧ ∀ q ∈ row, q.one = true)
    (hc : ∀ (r : Nat) (row : List V), r < n → f r = some row → ∀ (c : Nat) (q : V), row[c]? = some q → ∃ v, w.cell? ⟨b, o + (r * s + c), none⟩ = some v ∧ R q v) :
    ∃ news : List Value, news.length = n * s ∧ (∀ (j : Nat) (v : Value), news[j]? = some v → w.cell? ((⟨b, o, none⟩ : Addr).add j) = some v) ∧
      (∀ (r : Nat) (row : List V), r < n → f r = some row → ∀ (c : Nat) (q : V), row[c]? = some q → ∃ v, news[r * s + c]? = some v ∧ R q v) ∧
      ∀ v ∈ news, ∃ (q : V), q.one = true ∧ R q v := by
  have key : ∀ j, j < n * s → ∃ v, w.cell? ⟨b, o + j, none⟩ = some v ∧ (∃ q : V, q.one = true ∧ R q v) ∧ ∀ (row : List V) (q : V), f (j / s) = some row → row[j % s]? = some q → R q v := by
    intro j hj
    have h1 : j / s < n := (Nat.div_lt_iff_lt_mul hs).mpr hj
    obtain ⟨row, h2, h3, h4⟩ := hall _ h1
    have h5 : j % s < row.length := by rw [h3]; exact Nat.mod_lt _ hs
    obtain ⟨v, h6, h7⟩ := hc _ row h1 h2 (j % s) row[j % s] (List.getElem?_eq_getElem h5)
    refine ⟨v, ?_, ⟨_, h4 _ (List.getElem_mem h5), h7⟩, fun row' q hr hq => ?_⟩
    · rw [← h6]; congr 3; rw [Nat.mul_comm]; exact (Nat.div_add_mod j s).symm
    · rw [h2] at hr
      cases hr
      rw [List.getElem?_eq_getElem h5] at hq
      cases hq
      exact h7
  let g : Nat → Value := fun j => if h : j < n * s then (key j h).choose else undef
  have hg : ∀ j (h : j < n * s), g j = (key j h).choose := fun j h => by simp only [g]; rw [dif_pos h]
  refine ⟨(List.range (n * s)).map g, by simp, fun j v hv => ?_, fun r row hr hrow c q hq => ?_, fun v hv => ?_⟩
  · have hj : j < n * s := by have := lt_of_get hv; simpa using this
    rw [List.getElem?_map, List.getElem?_range hj] at hv
    simp only [Option.map_some, Option.some.injEq] at hv
    subst hv
    rw [hg j hj, add_at]
    exact (key j hj).choose_spec.1
  · obtain ⟨row', h2, h3, h4⟩ := hall r hr
    rw [hrow] at h2
    cases h2
    have hcl := lt_of_get hq
    have hj : r * s + c < n * s := by
      have : (r + 1) * s ≤ n * s := Nat.mul_le_mul_right _ hr
      rw [Nat.add_mul, Nat.one_mul] at this
      omega
    refine ⟨g (r * s + c), by rw [List.getElem?_map, List.getElem?_range hj]; rfl, ?_⟩
    rw [hg _ hj]
    have e1 : (r * s + c) / s = r := by rw [Nat.mul_comm, Nat.mul_add_div hs, Nat.div_eq_of_lt (by omega)]; rfl
    have e2 : (r * s + c) % s = c := by rw [Nat.mul_comm, Nat.mul_add_mod]; exact Nat.mod_eq_of_lt (by omega)
    exact (key _ hj).choose_spec.2.2 row q (by rw [e1]; exact hrow) (by rw [e2]; exact hq)
  · rw [List.mem_map] at hv
    obtain ⟨j, hj, rfl⟩ := hv
    have hj := List.mem_range.mp hj
    rw [hg j hj]
    exact (key j hj).choose_spec.2.1

/-- What a slice's cells hold. -/
theorem src_cells {X : Ctx} {T : Tab} {a : Act} {w : World} (h : HoldsT ρ X T σ a w) {x : Value} {q : V} {s m : Nat} {f : Nat → Option (List V)} (hx : Rep ρ w (Live X.A T σ.objs) T q x) (hr : srcOf σ s q = some (m, f)) (hs : 0 < s)
    (hf : ∀ r, r < m → (f r).isSome = true) :
    (m = 0 ∧ ∃ (c : Nat), x = .slice none 0 c) ∨ ∃ (b o c : Nat) (news : List Value), x = .slice (some ⟨b, o, none⟩) m c ∧ news.length = m * s ∧
      (∀ (j : Nat) (v : Value), news[j]? = some v → w.cell? ((⟨b, o, none⟩ : Addr).add j) = some v) ∧
      (∀ (r : Nat) (row : List V), r < m → f r = some row → row.length = s ∧ (∀ q ∈ row, q.one = true) ∧ ∀ (c : Nat) (q : V), row[c]? = some q → ∃ v, news[r * s + c]? = some v ∧ Rep ρ w (Live X.A T σ.objs) T q v) ∧
      (∀ v ∈ news, v.oneCell' = true) := by
  cases q with
  | ro s' rows' =>
    simp only [srcOf] at hr
    split at hr
    · rename_i he
      simp only [Option.some.injEq, Prod.mk.injEq] at hr
      obtain ⟨rfl, rfl⟩ := hr
      have := Nat.eq_of_beq_eq_true he
      subst this
      rcases rep_ro hx with ⟨e1, e2⟩ | ⟨b, o, cap, val, e1, h1, h2, h3, h4, h5, h6⟩
      · subst e2; exact .inl ⟨rfl, 0, e1⟩
      · obtain ⟨news, g1, g2, g3, g4⟩ := flat_fn (w := w) (b := b) (o := o) (n := rows'.length) (f := fun r => rows'[r]?) (R := Rep ρ w (Live X.A T σ.objs) T) hs
          (fun r hr => ⟨rows'[r], List.getElem?_eq_getElem hr, h4 _ (List.getElem_mem hr)⟩)
          (fun r row _ hrow c q hq => ⟨val r c, h5 r row hrow c q hq, .pure (h6 r row hrow c q hq)⟩)
        exact .inr ⟨b, o, cap, news, e1, g1, g2, fun r row hr hrow => ⟨(h4 row (List.mem_of_getElem? hrow)).1, (h4 row (List.mem_of_getElem? hrow)).2, g3 r row hr hrow⟩, fun v hv => by obtain ⟨q, k1, k2⟩ := g4 v hv; exact one_of_rep k2 k1⟩
    · cases hr
  | sl k off len full =>
    simp only [srcOf] at hr
    split at hr
    · rename_i ob hob
      split at hr
      · rename_i he
        simp only [Option.some.injEq, Prod.mk.injEq] at hr
        obtain ⟨rfl, rfl⟩ := hr
        have := Nat.eq_of_beq_eq_true he
        subst this
        obtain ⟨p, at_, cap, hT, ha, hc, _, _, e1⟩ := rep_sl hx
        obtain ⟨p', hT', _, hs', C, t, hb, hrows⟩ := h.mem.obj k ob hob
        rw [hT] at hT'
        cases hT'
        have hrow' : ∀ (r : Nat) (row : List V), r < len → ob.row (off + r) = some row → row.length = ob.s ∧ (∀ q ∈ row, q.one = true) ∧ ∀ (c : Nat) (q : V), row[c]? = some q → ∃ v, w.cell? ⟨p.b, at_ + (r * ob.s + c), none⟩ = some v ∧ Rep ρ w (Live X.A T σ.objs) T q v := by
          intro r row hr hrow
          obtain ⟨k1, k2, k3⟩ := hrows _ row hrow
          refine ⟨k1, k2, fun c q hq => ?_⟩
          obtain ⟨v, k4, k5⟩ := k3 c q hq
          refine ⟨v, ?_, k5⟩
          have e3 : at_ = p.o + off * p.s := by omega
          rw [e3, ← hs', show p.o + off * p.s + (r * p.s + c) = p.o + ((off + r) * p.s + c) by rw [Nat.add_mul]; omega]
          simp [World.cell?, hb, k4]
        obtain ⟨news, g1, g2, g3, g4⟩ := flat_fn (w := w) (b := p.b) (o := at_) (n := len) (f := fun r => ob.row (off + r)) (R := Rep ρ w (Live X.A T σ.objs) T) hs
          (fun r hr => by
            obtain ⟨row, hrow⟩ := Option.isSome_iff_exists.mp (hf r hr)
            exact ⟨row, hrow, (hrow' r row hr hrow).1, (hrow' r row hr hrow).2.1⟩)
          (fun r row hr hrow c q hq => (hrow' r row hr hrow).2.2 c q hq)
        exact .inr ⟨p.b, at_, cap, news, e1, g1, g2, fun r row hr hrow => ⟨(hrow' r row hr hrow).1, (hrow' r row hr hrow).2.1, g3 r row hr hrow⟩, fun v hv => by obtain ⟨q, k1, k2⟩ := g4 v hv; exact one_of_rep k2 k1⟩
      · cases hr
    · cases hr
  | sc v =>
    have := rep_sc hx
    subst this
    cases x with
    | slice ad n c =>
      cases ad with
      | none =>
        cases n with
        | zero =>
          simp only [srcOf, Option.some.injEq, Prod.mk.injEq] at hr
          exact .inl ⟨hr.1.symm, c, rfl⟩
        | succ n => simp [srcOf] at hr
      | some ad => simp [srcOf] at hr
    | _ => simp [srcOf] at hr
  | _ => simp [srcOf] at hr

/-! ### What the machine does -/

theorem run_app_nil (w : World) (t tx ty e e' : TypeId) (i : TypeInfo) (z : Value) (ht : P.underlying t = some (.slice e)) (hx : P.underlying tx = some (.slice e')) (hi : P.info? e = some i) (hz : i.zero = some z)
    (a : Addr) (n c : Nat) (news : List Value) (hl : news.length = n * i.size) (hnews : ∀ (j : Nat) (v : Value), news[j]? = some v → w.cell? (a.add j) = some v)
    (h0 : 0 < n) (h63 : n ≤ 9223372036854775807) (h48 : n * i.bytes ≤ 281474976710656) :
    ∃ C, (Builtin.append_ #[t, tx] ty #[.slice none 0 0, .slice (some a) n c]).run P w =
      .ok (.slice (some ⟨w.heap.size, 0, none⟩) n (grownCap w n 0 e)) (more w.drew (.cells (news.toArray ++ C) e (0, 0))) ∧ C.size = (grownCap w n 0 e - n) * z.cells.size := by
  have hn : n ≠ 0 := by omega
  have h63' : ¬ (9223372036854775807 < (n : Int)) := by omega
  have h48' : ¬ (281474976710656 < Builtin.nextslicecap n 0 * i.bytes) := by rw [nextslicecap_zero h0]; omega
  have hf := run_firstCells_some (P := P) w.drew i.size n a n c news hl (by simpa using hnews)
  exact ⟨Builtin.zeroCells z.cells (grownCap w n 0 e - n), by
    simp [Builtin.append_, run_underlying ht, run_underlying hx, sizeOf, typeInfo, zeroValue, hi, hz, Builtin.lenOf, hn, h63', h48', Question.forced, run_firstCells_none, hf, newRow, grownCap, more]
    rfl, size_zeroCells _ _⟩

theorem run_app_grow (w : World) (t tx ty e e' : TypeId) (i : TypeInfo) (z : Value) (ht : P.underlying t = some (.slice e)) (hx : P.underlying tx = some (.slice e')) (hi : P.info? e = some i) (hz : i.zero = some z)
    (b : Addr) (sLen sCap : Nat) (olds : List Value) (hlo : olds.length = sLen * i.size) (holds : ∀ (j : Nat) (v : Value), olds[j]? = some v → w.cell? (b.add j) = some v)
    (a : Addr) (n c : Nat) (news : List Value) (hl : news.length = n * i.size) (hnews : ∀ (j : Nat) (v : Value), news[j]? = some v → w.cell? (a.add j) = some v)
    (hg : sCap < sLen + n) (h63 : sLen + n ≤ 9223372036854775807) (hfit : (sLen + n) * i.bytes ≤ 140737488355328) :
    ∃ C, (Builtin.append_ #[t, tx] ty #[.slice (some b) sLen sCap, .slice (some a) n c]).run P w =
      .ok (.slice (some ⟨w.heap.size, 0, none⟩) (sLen + n) (grownCap w (sLen + n) sCap e))
        (more w.drew (.cells ((olds ++ news).toArray ++ C) e (0, 0))) ∧ C.size = (grownCap w (sLen + n) sCap e - (sLen + n)) * z.cells.size := by
  have hn : ¬ (sLen + n ≤ sCap) := by omega
  have h63' : ¬ (9223372036854775807 < ((sLen : Int) + (n : Int))) := by omega
  have h48' : ¬ (281474976710656 < Builtin.nextslicecap (sLen + n) sCap * i.bytes) := by have := growslice_fits hg hfit; omega
  have hf := run_firstCells_some (P := P) w.drew i.size n a n c news hl (by simpa using hnews)
  have hfo := run_firstCells_some (P := P) w.drew i.size sLen b sLen sCap olds hlo (by simpa using holds)
  refine ⟨Builtin.zeroCells z.cells (grownCap w (sLen + n) sCap e - (sLen + n)), ?_, size_zeroCells _ _⟩
  simp [Builtin.append_, run_underlying ht, run_underlying hx, sizeOf, typeInfo, zeroValue, hi, hz, Builtin.lenOf, hn, h63', h48', Question.forced, hf, hfo, newRow, grownCap, more]
  generalize Builtin.zeroCells z.cells _ = Z
  have e : olds.toArray ++ (news.toArray ++ Z) = (olds ++ news).toArray ++ Z := by apply Array.ext'; simp
  rw [e]
  rfl

theorem run_app_none (w : World) (t tx ty e e' : TypeId) (i : TypeInfo) (ht : P.underlying t = some (.slice e)) (hx : P.underlying tx = some (.slice e')) (hi : P.info? e = some i)
    (b : Option Addr) (sLen sCap : Nat) (hc : sLen ≤ sCap) (a : Option Addr) (c : Nat) :
    (Builtin.append_ #[t, tx] ty #[.slice b sLen sCap, .slice a 0 c]).run P w = .ok (.slice b sLen sCap) w := by
  cases a <;> cases b <;> simp [Builtin.append_, run_underlying ht, run_underlying hx, sizeOf, typeInfo, hi, Builtin.lenOf, hc, Builtin.firstCells, loadCells, loadCellsFrom, storeCells]


theorem run_app_room (w : World) (t tx ty e e' t' : TypeId) (i : TypeInfo) (ht : P.underlying t = some (.slice e)) (hx : P.underlying tx = some (.slice e')) (hi : P.info? e = some i)
    (g at_ sLen sCap : Nat) (cur : Array Value) (hg : w.heap[g]? = some (.cells cur t' (0, 0)))
    (a : Addr) (m c : Nat) (news : List Value) (hl : news.length = m * i.size) (hnews : ∀ (j : Nat) (u : Value), news[j]? = some u → w.cell? (a.add j) = some u) (h1 : ∀ u ∈ news, u.oneCell' = true)
    (hroom : sLen + m ≤ sCap) (hfit : at_ + sLen * i.size + news.length ≤ cur.size) :
    (Builtin.append_ #[t, tx] ty #[.slice (some ⟨g, at_, none⟩) sLen sCap, .slice (some a) m c]).run P w =
      .ok (.slice (some ⟨g, at_, none⟩) (sLen + m) sCap) (upd w g (putA cur (at_ + sLen * i.size) news) t') := by
  have hf := run_firstCells_some (P := P) w i.size m a m c news hl hnews
  have hst := run_storeCells (P := P) t' g (at_ + sLen * i.size) news 0 w cur hg (by simpa using hfit) h1
  simp only [Nat.add_zero] at hst
  simp [Builtin.append_, run_underlying ht, run_underlying hx, sizeOf, typeInfo, hi, Builtin.lenOf, hroom, hf, add_at, hst]

theorem grown_ge (w : World) (need old : Nat) (e : TypeId) : need ≤ grownCap w need old e := by
  show need ≤ need + _
  exact Nat.le_add_right _ _

theorem drew_holds {X : Ctx} {T : Tab} {a : Act} {w : World} (h : HoldsT ρ X T σ a w) : HoldsT ρ X T σ a w.drew := h.congr rfl rfl rfl rfl

theorem rep_drew {w : World} {L : Nat → Prop} {T : Tab} {q : V} {v : Value} (h : Rep ρ w L T q v) : Rep ρ w.drew L T q v :=
  h.later (Nat.le_refl _) (fun _ _ _ => rfl) (fun _ _ h => h) (fun _ C _ fr hc => ⟨C, fr, hc, rfl⟩) (fun _ _ h => h)

/-- The call of append. -/
def isAppend (o : Oper) (s x : Operand) (t tx : TypeId) : Prop := o.op = .call { callee := .builtin .append, args := #[s, x], argTypes := #[t, tx] }

theorem run_of_append {o : Oper} {s x : Operand} {t tx : TypeId} (ho : isAppend o s x t tx) {a : Act} {w w' : World} {v : Value}
    (h : (Builtin.append_ #[t, tx] o.type #[a.eval s, a.eval x]).run P w = .ok v w') : (execOp a.eval o).run P w = .ok (.value v) w' := by
  have ho : o.op = _ := ho
  simp [execOp, ho, resolve, invoke, builtin, h]

/-- An element's type. -/
structure ElOK (P : Program) (t : TypeId) (e es eb : Nat) : Prop where
  und : P.underlying t = some (.slice e)
  info : ∃ (i : TypeInfo) (z : Value), P.info? e = some i ∧ i.size = es ∧ i.bytes = eb ∧ i.zero = some z ∧ z.cells.size = es

theorem ElOK.of {t : TypeId} {ti te : TI} {e es eb : Nat} (ht : TyOK P t ti) (hs : ti.sh = .slice e es eb) (he : TyOK P e te) (hz : te.zero.length = es) : ElOK P t e es eb := by
  obtain ⟨hu, i, hi, h1, h2⟩ := slice_of ht hs
  have hz' := he.zero
  rw [hi] at hz'
  cases hzz : i.zero with
  | none => rw [Option.map_some, hzz] at hz'; simp at hz'
  | some z =>
    rw [Option.map_some, hzz] at hz'
    simp at hz'
    refine ⟨hu, i, z, hi, h1, h2, hzz, ?_⟩
    have := congrArg List.length hz'
    simp at this
    omega


/-- An object is given up. -/
theorem HoldsT.kill {X : Ctx} {T : Tab} {a : Act} {w : World} (h : HoldsT ρ X T σ a w) (k : Nat) (hforb : ∀ r c, ¬ σ.forb k r c) :
    HoldsT ρ X T { σ with objs := Objs.put σ.objs k none } a w ∧ ∀ (q : V) (v : Value), Rep ρ w (Live X.A T σ.objs) T q v → Rep ρ w (Live X.A T (Objs.put σ.objs k none)) T q v := by
  have hget : ∀ (j : Nat) (x : Ob), Objs.put σ.objs k none j = some x → σ.objs j = some x := by
    intro j x hj
    unfold Objs.put at hj
    by_cases e : j = k
    · rw [if_pos e] at hj; cases hj
    · rw [if_neg e] at hj; exact hj
  have hrep : ∀ (q : V) (v : Value), Rep ρ w (Live X.A T σ.objs) T q v → Rep ρ w (Live X.A T (Objs.put σ.objs k none)) T q v :=
    fun q v hq => hq.congr fun b hl => hl.imp id fun ⟨j, x, p, h1, h2, h3⟩ => ⟨j, x, p, hget j x h1, h2, h3⟩
  refine ⟨⟨h.pre, ⟨h.mem.avoid, h.mem.low, fun j x hj => ?_, fun i j x y p q hi hj => h.mem.inj i j x y p q (hget i x hi) (hget j y hj), h.mem.glob.congr fun b hl => hl.imp id fun ⟨j, x, p, h1, h2, h3⟩ => ⟨j, x, p, hget j x h1, h2, h3⟩⟩, fun j hj => ?_, fun t => hrep _ _ (h.tmp t), h.size, h.defers.map hrep, h.keep, h.fresh, fun j h1 h2 => h.old j h1 ?_, fun j r c h1 h2 => ?_, h.pc, h.hforb, h.hks⟩, hrep⟩
  · obtain ⟨p, h1, hA, h2, C, t, h3, h4⟩ := h.mem.obj j x (hget j x hj)
    refine ⟨p, h1, hA, h2, C, t, h3, fun r row hr => ?_⟩
    obtain ⟨g1, g2, g3⟩ := h4 r row hr
    refine ⟨g1, g2, fun c q hq => ?_⟩
    obtain ⟨v, h6, h7⟩ := g3 c q hq
    exact ⟨v, h6, hrep _ _ h7⟩
  · obtain ⟨g1, g2⟩ := h.top j hj
    refine ⟨g1, ?_⟩
    show Objs.put σ.objs k none j = none
    unfold Objs.put
    split
    · rfl
    · exact g2
  · intro h3
    apply h2
    show Objs.put σ.objs k none j = none
    unfold Objs.put
    split
    · rfl
    · exact h3
  · show Objs.put σ.objs k none j ≠ none
    unfold Objs.put
    rw [if_neg (fun e2 => by subst e2; exact hforb r c (by rw [← h.hforb]; exact h1))]
    exact h.stay j r c h1 h2

/-- The rows of what was, and of what is appended behind it. -/
def appRow (len : Nat) (g f : Nat → Option (List V)) (m r : Nat) : Option (List V) := if r < len then g r else if r < len + m then f (r - len) else none

/-- append to nil. -/
theorem qo_append_nil {C : CellP} {o : Oper} {s x : Operand} {t tx : TypeId} {e es eb m : Nat} {f : Nat → Option (List V)} {e' : TypeId} {N : St → Prop} (ho : isAppend o s x t tx)
    (hsv : evalV σ s = .sc (.slice none 0 0)) (hr : srcOf σ es (evalV σ x) = some (m, f)) (hf : ∀ r, r < m → (f r).isSome = true) (hel : ElOK P t e es eb) (htx : P.underlying tx = some (.slice e'))
    (hs : 0 < es) (hne : 0 < m) (h63 : m ≤ 9223372036854775807) (h48 : m * eb ≤ 281474976710656) (hd : dstOK o σ)
    (h : N (({ σ with objs := Objs.put σ.objs σ.next (some ⟨es, appRow 0 (fun _ => none) f m⟩), next := σ.next + 1 } : St).put o.dst (.sl σ.next 0 m false))) : QO ρ P C o σ N K := by
  obtain ⟨hu, i, z, hi, h1, h2, hz, hzs⟩ := hel
  subst h1 h2
  refine qo_new hd ?_ h
  intro X T a w hh
  have e1 := rep_sc (ev_rep hh hsv)
  rcases src_cells hh (eval_rep hh x) hr hs hf with ⟨e2, _⟩ | ⟨b, off, c, news, e2, g1, g2, g3, g4⟩
  · omega
  · obtain ⟨D, hrun, hD⟩ := run_app_nil w t tx o.type e e' i z hu htx hi hz ⟨b, off, none⟩ m c news g1 g2 hne h63 h48
    refine ⟨news.toArray ++ D, e, _, w.drew, rfl, rfl, rfl, rfl, run_of_append ho (by rw [e1, e2]; exact hrun), fun r row hrow => ?_, fun T' w' L hT hb => ?_⟩
    · simp only [appRow] at hrow
      rw [if_neg (by omega)] at hrow
      split at hrow
      · rename_i hlt
        obtain ⟨k1, k2, k3⟩ := g3 r row (by omega) hrow
        refine ⟨k1, k2, fun c q hq => ?_⟩
        obtain ⟨v, f1, f2⟩ := k3 c q hq
        refine ⟨v, ?_, f2⟩
        rw [Array.getElem?_append_left (by have := lt_of_get f1; simpa using this)]
        simpa using f1
      · cases hrow
    · have hge := grown_ge w m 0 e
      exact .sl σ.next 0 m false ⟨w.heap.size, 0, i.size⟩ 0 _ hT (.inr (by simp)) hge (fun hx => by cases hx) ⟨_, _, _, hb, by
        simp only [Array.size_append, List.size_toArray, g1, hD, hzs]
        rw [Nat.zero_add, ← Nat.add_mul]
        exact Nat.mul_le_mul_right _ (by omega)⟩

/-- What may stand ahead of an append of nothing. -/
def V.appB : V → Bool
  | .sc (.slice none 0 0) => true
  | .sl _ _ _ _ => true
  | _ => false

/-- Nothing is appended. -/
theorem qq_append_none {C : CellP} {o : Oper} {s x : Operand} {t tx : TypeId} {e es eb : Nat} {p : V} {f : Nat → Option (List V)} {e' : TypeId} (ho : isAppend o s x t tx)
    (hsv : evalV σ s = p) (hp : p.appB = true) (hr : srcOf σ es (evalV σ x) = some (0, f)) (hel : ElOK P t e es eb) (htx : P.underlying tx = some (.slice e')) (hs : 0 < es) : QQ ρ P σ C o p := by
  intro X T a w hh
  obtain ⟨hu, i, z, hi, h1, h2, hz, hzs⟩ := hel
  have hpr := ev_rep hh hsv
  have hbase : ∃ b n c, a.eval s = .slice b n c ∧ n ≤ c := by
    unfold V.appB at hp
    split at hp
    · exact ⟨none, 0, 0, rep_sc hpr, Nat.le_refl _⟩
    · obtain ⟨q, at_, cap, _, _, hc, _, _, e1⟩ := rep_sl hpr; exact ⟨_, _, _, e1, hc⟩
    · cases hp
  obtain ⟨b, n, c, e1, hc⟩ := hbase
  have hsrc : ∃ ad c, a.eval x = .slice ad 0 c := by
    rcases src_cells hh (eval_rep hh x) hr hs (fun r hr => by omega) with ⟨_, c', e2⟩ | ⟨b, off, c, news, e2, _⟩
    · exact ⟨_, _, e2⟩
    · exact ⟨_, _, e2⟩
  obtain ⟨ad, c', e2⟩ := hsrc
  refine ⟨a.eval s, hpr, fun w' _ _ => ?_⟩
  have := run_app_none (P := P) w' t tx o.type e e' i hu htx hi b n c hc ad c'
  rw [← e2, ← e1] at this
  exact run_of_append ho this

section
variable {C : CellP} {o : Oper} {s x : Operand} {t tx : TypeId} {e es eb k off len m : Nat} {ob : Ob} {f : Nat → Option (List V)} {e' : TypeId} {N : St → Prop}

/-- The cells of a slice of an object. -/
theorem old_cells {X : Ctx} {T : Tab} {a : Act} {w : World} (hh : HoldsT ρ X T σ a w) {full : Bool} (hsv : evalV σ s = .sl k off len full) (hk : σ.objs k = some ob) (hs : 0 < ob.s) :
    ∃ (p : Pl) (at_ cap : Nat) (C0 : Array Value) (t0 : TypeId), T k = some p ∧ p.s = ob.s ∧ (len = 0 ∨ at_ = p.o + off * p.s) ∧ len ≤ cap ∧ (full = true → cap = len) ∧ w.heap[p.b]? = some (.cells C0 t0 (0, 0)) ∧ at_ + cap * p.s ≤ C0.size ∧
      a.eval s = .slice (some ⟨p.b, at_, none⟩) len cap ∧ ∃ olds : List Value, olds.length = len * p.s ∧ (∀ j v, olds[j]? = some v → C0[at_ + j]? = some v) ∧
      ∀ (r : Nat) (row : List V), r < len → ob.row (off + r) = some row → row.length = ob.s ∧ (∀ q ∈ row, q.one = true) ∧ ∀ (c : Nat) (q : V), row[c]? = some q → ∃ v, olds[r * p.s + c]? = some v ∧ C0[at_ + (r * p.s + c)]? = some v ∧ Rep ρ w (Live X.A T σ.objs) T q v := by
  obtain ⟨p, at_, cap, hT, ha, hc, hfu, ⟨C1, t1, fr1, hC1, hroom⟩, e1⟩ := rep_sl (ev_rep hh hsv)
  obtain ⟨p', hT', _, hs', C0, t0, hb, hrows⟩ := hh.mem.obj k ob hk
  rw [hT] at hT'
  cases hT'
  rw [hb] at hC1
  injection hC1 with hC1
  injection hC1 with j1 j2 j3
  subst j1 j2
  have hle : len * p.s ≤ cap * p.s := Nat.mul_le_mul_right _ hc
  have hget : ∀ j, j < len * p.s → ((C0.toList.drop at_).take (len * p.s))[j]? = C0[at_ + j]? := by
    intro j hj
    rw [List.getElem?_take, if_pos hj, List.getElem?_drop, Array.getElem?_toList]
  refine ⟨p, at_, cap, C0, t0, hT, hs', ha, hc, hfu, hb, hroom, e1, (C0.toList.drop at_).take (len * p.s), by simp; omega, fun j v hj => ?_, fun r row hr hrow => ?_⟩
  · have hjl : j < len * p.s := by have := lt_of_get hj; simp at this; omega
    rw [← hget j hjl]
    exact hj
  · obtain ⟨k1, k2, k3⟩ := hrows _ row hrow
    refine ⟨k1, k2, fun c q hq => ?_⟩
    obtain ⟨v, k4, k5⟩ := k3 c q hq
    have hcl := lt_of_get hq
    have hj : r * p.s + c < len * p.s := by
      have : (r + 1) * p.s ≤ len * p.s := Nat.mul_le_mul_right _ hr
      rw [Nat.add_mul, Nat.one_mul] at this
      omega
    have e3 : at_ = p.o + off * p.s := by
      rcases ha with g | g
      · omega
      · exact g
    have e4 : C0[at_ + (r * p.s + c)]? = some v := by
      rw [e3, show p.o + off * p.s + (r * p.s + c) = p.o + ((off + r) * p.s + c) by rw [Nat.add_mul]; omega]
      exact k4
    exact ⟨v, by rw [hget _ hj]; exact e4, e4, k5⟩

theorem app_rows {R : V → Value → Prop} {g : Nat → Option (List V)} {olds news : List Value} {D : Array Value} {s : Nat} (ho : olds.length = len * s) (hn : news.length = m * s)
    (h1 : ∀ (r : Nat) (row : List V), r < len → g r = some row → row.length = s ∧ (∀ q ∈ row, q.one = true) ∧ ∀ (c : Nat) (q : V), row[c]? = some q → ∃ v, olds[r * s + c]? = some v ∧ R q v)
    (h2 : ∀ (r : Nat) (row : List V), r < m → f r = some row → row.length = s ∧ (∀ q ∈ row, q.one = true) ∧ ∀ (c : Nat) (q : V), row[c]? = some q → ∃ v, news[r * s + c]? = some v ∧ R q v)
    (r : Nat) (row : List V) (hr : appRow len g f m r = some row) : row.length = s ∧ (∀ q ∈ row, q.one = true) ∧ ∀ (c : Nat) (q : V), row[c]? = some q → ∃ v, ((olds ++ news).toArray ++ D)[r * s + c]? = some v ∧ R q v := by
  unfold appRow at hr
  have fin : ∀ (j : Nat) (v : Value), (olds ++ news)[j]? = some v → ((olds ++ news).toArray ++ D)[j]? = some v := by
    intro j v hj
    rw [Array.getElem?_append_left (by have := lt_of_get hj; simpa using this)]
    simpa using hj
  split at hr
  · rename_i hlt
    obtain ⟨k1, k2, k3⟩ := h1 r row hlt hr
    refine ⟨k1, k2, fun c q hq => ?_⟩
    obtain ⟨v, k4, k5⟩ := k3 c q hq
    exact ⟨v, fin _ v (by rw [List.getElem?_append_left (lt_of_get k4)]; exact k4), k5⟩
  · rename_i hge
    split at hr
    · obtain ⟨k1, k2, k3⟩ := h2 (r - len) row (by omega) hr
      refine ⟨k1, k2, fun c q hq => ?_⟩
      obtain ⟨v, k4, k5⟩ := k3 c q hq
      refine ⟨v, fin _ v ?_, k5⟩
      have e1 : r * s + c = olds.length + ((r - len) * s + c) := by
        rw [ho, Nat.sub_mul]
        have : len * s ≤ r * s := Nat.mul_le_mul_right _ (by omega)
        omega
      rw [e1, List.getElem?_append_right (by omega), Nat.add_sub_cancel_left]
      exact k4
    · cases hr

/-- append where there is no room. -/
theorem qo_append_full (ho : isAppend o s x t tx) (hsv : evalV σ s = .sl k off len true) (hk : σ.objs k = some ob) (hst : ob.s = es)
    (hr : srcOf σ es (evalV σ x) = some (m, f)) (hf : ∀ r, r < m → (f r).isSome = true) (hel : ElOK P t e es eb) (htx : P.underlying tx = some (.slice e')) (hs : 0 < es) (hne : 0 < m)
    (h63 : len + m ≤ 9223372036854775807) (h47 : (len + m) * eb ≤ 140737488355328) (hd : dstOK o σ)
    (h : N (({ σ with objs := Objs.put σ.objs σ.next (some ⟨es, appRow len (fun r => ob.row (off + r)) f m⟩), next := σ.next + 1 } : St).put o.dst (.sl σ.next 0 (len + m) false))) : QO ρ P C o σ N K := by
  obtain ⟨hu, i, z, hi, h1, h2, hz, hzs⟩ := hel
  subst h1 h2
  refine qo_new hd ?_ h
  intro X T a w hh
  obtain ⟨p, at_, cap, C0, t0, hT, hps, ha, hc, hfu, hb, hroom, e1, olds, ho1, ho2, ho3⟩ := old_cells hh hsv hk (by omega)
  have hcap := hfu rfl
  rcases src_cells hh (eval_rep hh x) hr hs hf with ⟨e2, _⟩ | ⟨b, off2, c, news, e2, g1, g2, g3, g4⟩
  · omega
  · have hsz : p.s = i.size := by omega
    obtain ⟨D, hrun, hD⟩ := run_app_grow w t tx o.type e e' i z hu htx hi hz ⟨p.b, at_, none⟩ len cap olds (by rw [← hsz]; exact ho1) (fun j v hj => by rw [add_at]; simp [World.cell?, hb, ho2 j v hj]) ⟨b, off2, none⟩ m c news g1 g2 (by omega) h63 h47
    refine ⟨(olds ++ news).toArray ++ D, e, _, w.drew, rfl, rfl, rfl, rfl, run_of_append ho (by rw [e1, e2]; exact hrun), fun r row hrow => ?_, fun T' w' L hT' hb' => ?_⟩
    · exact app_rows (R := Rep ρ w (Live X.A T σ.objs) T) (by rw [← hsz]; exact ho1) g1 (fun r row hlt hrow => by
        obtain ⟨k1, k2, k3⟩ := ho3 r row hlt hrow
        exact ⟨by omega, k2, fun c q hq => by obtain ⟨v, k4, _, k5⟩ := k3 c q hq; exact ⟨v, by rw [← hsz]; exact k4, k5⟩⟩) g3 r row hrow
    · have hge := grown_ge w (len + m) cap e
      refine .sl σ.next 0 (len + m) false ⟨w.heap.size, 0, i.size⟩ 0 _ hT' (.inr (by simp)) hge (fun hx => by cases hx) ⟨_, _, _, hb', ?_⟩
      simp only [Array.size_append, List.size_toArray, List.length_append, g1, ho1, hD, hzs, hsz]
      rw [Nat.zero_add, ← Nat.add_mul, ← Nat.add_mul]
      exact Nat.mul_le_mul_right _ (by omega)

/-- append where there may be room: what it is appended to is given up. -/
theorem qo_append (ho : isAppend o s x t tx) (hsv : evalV σ s = .sl k off len false) (hk : σ.objs k = some ob) (hst : ob.s = es)
    (hr : srcOf σ es (evalV σ x) = some (m, f)) (hf : ∀ r, r < m → (f r).isSome = true) (hel : ElOK P t e es eb) (htx : P.underlying tx = some (.slice e')) (hs : 0 < es) (hne : 0 < m)
    (h63 : len + m ≤ 9223372036854775807) (h47 : (len + m) * eb ≤ 140737488355328) (hforb : ∀ r c, ¬ σ.forb k r c) (hC : ∀ r c, ¬ C k r c) (hd : dstOK o σ)
    (h : N (({ σ with objs := Objs.put (Objs.put σ.objs k none) σ.next (some ⟨es, appRow len (fun r => ob.row (off + r)) f m⟩), next := σ.next + 1 } : St).put o.dst (.sl σ.next 0 (len + m) false))) : QO ρ P C o σ N K := by
  obtain ⟨hu, i, z, hi, h1, h2, hz, hzs⟩ := hel
  subst h1 h2
  intro X T a w hh
  obtain ⟨p, at_, cap, C0, t0, hT, hps, ha, hc, hfu, hb, hroom, e1, olds, ho1, ho2, ho3⟩ := old_cells hh hsv hk (by omega)
  have hsz : p.s = i.size := by omega
  have hkn : ¬ σ.next = k := fun e => by
    have := (hh.top σ.next (Nat.le_refl _)).2
    rw [e, hk] at this
    cases this
  rcases src_cells hh (eval_rep hh x) hr hs hf with ⟨e2, _⟩ | ⟨b, off2, c, news, e2, g1, g2, g3, g4⟩
  · omega
  · have holds : ∀ (r : Nat) (row : List V), r < len → ob.row (off + r) = some row → row.length = i.size ∧ (∀ q ∈ row, q.one = true) ∧ ∀ (c : Nat) (q : V), row[c]? = some q → ∃ v, olds[r * i.size + c]? = some v ∧ C0[at_ + (r * i.size + c)]? = some v ∧ Rep ρ w (Live X.A T σ.objs) T q v := by
      intro r row hlt hrow
      obtain ⟨k1, k2, k3⟩ := ho3 r row hlt hrow
      rw [hsz] at k3
      exact ⟨by omega, k2, k3⟩
    by_cases hg : cap < len + m
    · -- it grows
      obtain ⟨D, hrun, hD⟩ := run_app_grow w t tx o.type e e' i z hu htx hi hz ⟨p.b, at_, none⟩ len cap olds (by rw [← hsz]; exact ho1) (fun j v hj => by rw [add_at]; simp [World.cell?, hb, ho2 j v hj]) ⟨b, off2, none⟩ m c news g1 g2 (by omega) h63 h47
      obtain ⟨q1, q2⟩ := (drew_holds hh).kill k hforb
      obtain ⟨k1, k2, k3⟩ := q1.new ⟨i.size, appRow len (fun r => ob.row (off + r)) f m⟩ ((olds ++ news).toArray ++ D) e (fun r row hrow => by
        obtain ⟨f1, f2, f3⟩ := app_rows (R := Rep ρ w (Live X.A T σ.objs) T) (D := D) (by rw [← hsz]; exact ho1) g1 (fun r row hlt hrow => by
          obtain ⟨k1, k2, k3⟩ := holds r row hlt hrow
          exact ⟨k1, k2, fun c q hq => by obtain ⟨v, k4, _, k5⟩ := k3 c q hq; exact ⟨v, k4, k5⟩⟩) g3 r row hrow
        exact ⟨f1, f2, fun c q hq => by obtain ⟨v, f4, f5⟩ := f3 c q hq; exact ⟨v, f4, q2 _ _ (rep_drew f5)⟩⟩)
      unfold Oper.wp
      rw [run_of_append ho (by rw [e1, e2]; exact hrun)]
      refine ⟨_, _, h, k1.put ?_ hd, ?_⟩
      · have hge := grown_ge w (len + m) cap e
        refine .sl σ.next 0 (len + m) false ⟨w.heap.size, 0, i.size⟩ 0 _ (by show Tab.put T σ.next _ σ.next = _; unfold Tab.put; rw [if_pos rfl]; rfl) (.inr (by simp)) hge (fun hx => by cases hx) ⟨_, _, _, more_new w.drew _, ?_⟩
        simp only [Array.size_append, List.size_toArray, List.length_append, g1, ho1, hD, hzs, hsz]
        rw [Nat.zero_add, ← Nat.add_mul, ← Nat.add_mul]
        exact Nat.mul_le_mul_right _ (by omega)
      · rw [put_objs]
        have hs3 := k3 C
        have hsub : ∀ b, LiveO T (Objs.put σ.objs k none) b → LiveO T σ.objs b := by
          rintro b ⟨j, y, q, f1, f2, f3⟩
          unfold Objs.put at f1
          split at f1
          · cases f1
          · exact ⟨j, y, q, f1, f2, f3⟩
        refine ⟨stab_more w.drew _, SameC.of_blocks hh.mem.low fun b hb => more_old w.drew _ hb, hs3.ext, fun j r c hj hne => ?_, fun b hb hl => hsub b (hs3.live b hb hl), hs3.map⟩
        show Objs.put (Objs.put σ.objs k none) σ.next _ j ≠ none
        unfold Objs.put
        by_cases e3 : j = σ.next
        · rw [if_pos e3]; simp
        · rw [if_neg e3, if_neg (fun e4 => by subst e4; exact hC r c hj)]
          exact hne
    · -- there is room
      have hfit : at_ + len * i.size + news.length ≤ C0.size := by
        rw [g1]
        have : (len + m) * i.size ≤ cap * i.size := Nat.mul_le_mul_right _ (by omega)
        rw [Nat.add_mul] at this
        rw [hsz] at hroom
        omega
      have hrun := run_app_room w t tx o.type e e' t0 i hu htx hi p.b at_ len cap C0 hb ⟨b, off2, none⟩ m c news g1 g2 g4 (by omega) hfit
      have hget := putA_get news C0 (at_ + len * i.size)
      obtain ⟨k1, k2, k3⟩ := hh.repl (k' := σ.next) (p' := ⟨p.b, at_, i.size⟩) (ob' := ⟨i.size, appRow len (fun r => ob.row (off + r)) f m⟩) (C1 := putA C0 (at_ + len * i.size) news) hk (fun r c hx => (hforb r c hx).elim) hT hb (putA_size _ _ _) (.inr rfl) rfl rfl (fun r row hrow => by
        simp only [appRow] at hrow
        split at hrow
        · rename_i hlt
          obtain ⟨f1, f2, f3⟩ := holds r row hlt hrow
          refine ⟨f1, f2, fun c q hq => ?_⟩
          obtain ⟨v, _, f4, f5⟩ := f3 c q hq
          refine ⟨v, ?_, f5⟩
          have hcl := lt_of_get hq
          have hj : r * i.size + c < len * i.size := by
            have : (r + 1) * i.size ≤ len * i.size := Nat.mul_le_mul_right _ hlt
            rw [Nat.add_mul, Nat.one_mul] at this
            omega
          simp only
          rw [hget _ hfit, if_neg (by omega)]
          exact f4
        · rename_i hge
          split at hrow
          · rename_i hlt2
            obtain ⟨f1, f2, f3⟩ := g3 (r - len) row (by omega) hrow
            refine ⟨f1, f2, fun c q hq => ?_⟩
            obtain ⟨v, f4, f5⟩ := f3 c q hq
            refine ⟨v, ?_, f5⟩
            have hcl := lt_of_get hq
            have e1 : r * i.size = len * i.size + (r - len) * i.size := by rw [← Nat.add_mul]; congr 1; omega
            have hj : (r - len) * i.size + c < news.length := lt_of_get f4
            simp only
            rw [hget _ hfit, if_pos (by omega), show at_ + (r * i.size + c) - (at_ + len * i.size) = (r - len) * i.size + c by omega]
            exact f4
          · cases hrow)
      rw [if_neg hkn] at k1
      unfold Oper.wp
      rw [run_of_append ho (by rw [e1, e2]; exact hrun)]
      refine ⟨_, _, h, k1.put ?_ hd, ?_⟩
      · refine .sl σ.next 0 (len + m) false ⟨p.b, at_, i.size⟩ at_ cap (by unfold Tab.put; rw [if_pos rfl]) (.inr (by simp)) (by omega) (fun hx => by cases hx) ⟨_, _, _, upd_same w _ _ (lt_heap hb), ?_⟩
        rw [putA_size, ← hsz]
        exact hroom
      · rw [put_objs]
        exact k3 C (fun r c hx => (hC r c hx).elim)

end
end Go.Proofs.YtjljgldgkkfckaaDoor.M
