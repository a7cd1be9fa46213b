/- append, in the logic. -/
import Derived.Test.YtohchoelhnipmaaQFrame
import Derived.Laws.AppendOwn
namespace Go.Proofs.Ytohchoelhnipmaa.Q
open Go Go.RowKit
set_option linter.unusedSimpArgs false
set_option linter.unusedVariables false

variable {P : Program} {σ : St} {K : Ex → St → Prop}

/-- The rows of a slice. -/
def rowsOf (σ : St) (s : Nat) : V → Option (List (List V))
  | .ro s' rows => match Nat.beq s' s with
    | true => some rows
    | false => none
  | .sc (.slice none 0 _) => some []
  | .sl k off len => match σ.objs[k]? with
    | some (some ob) => match Nat.beq ob.s s, Nat.ble (off + len) ob.rows.length with
      | true, true => some ((ob.rows.drop off).take len)
      | _, _ => none
    | _ => none
  | _ => none

theorem flat_fn {s n : Nat} {w : World} {b o : Nat} {rows : List (List V)} {R : V → Value → Prop} (hs : 0 < s) (hn : rows.length = n) (hlen : ∀ row ∈ rows, row.length = s)
    (h : ∀ (r : Nat) (row : List V), rows[r]? = some row → ∀ (c : Nat) (q : V), row[c]? = some q → ∃ v, w.cell? ⟨b, o + (r * s + c), none⟩ = some v ∧ R q v) :
    ∃ news : List Value, news.length = n * s ∧ (∀ (j : Nat) (v : Value), news[j]? = some v → w.cell? ((⟨b, o, none⟩ : Addr).add j) = some v) ∧
      (∀ (r : Nat) (row : List V), rows[r]? = some row → ∀ (c : Nat) (q : V), row[c]? = some q → ∃ v, news[r * s + c]? = some v ∧ R q v) := by
  have key : ∀ j, j < n * s → ∃ v, w.cell? ⟨b, o + j, none⟩ = some v ∧ ∀ row q, rows[j / s]? = some row → row[j % s]? = some q → R q v := by
    intro j hj
    have hr : j / s < rows.length := by rw [hn]; exact (Nat.div_lt_iff_lt_mul hs).mpr hj
    have hrow : rows[j / s]? = some rows[j / s] := List.getElem?_eq_getElem hr
    have hl := hlen rows[j / s] (List.getElem_mem hr)
    have hc : j % s < rows[j / s].length := by rw [hl]; exact Nat.mod_lt _ hs
    obtain ⟨v, h1, h2⟩ := h _ _ hrow (j % s) rows[j / s][j % s] (List.getElem?_eq_getElem hc)
    refine ⟨v, by rw [show j / s * s + j % s = j by rw [Nat.mul_comm]; exact Nat.div_add_mod j s] at h1; exact h1, fun row q hrw hq => ?_⟩
    rw [hrow] at hrw
    cases hrw
    rw [List.getElem?_eq_getElem hc] at hq
    cases hq
    exact h2
  let f : Nat → Value := fun j => if hj : j < n * s then (key j hj).choose else undef
  refine ⟨(List.range (n * s)).map f, by simp, ?_, ?_⟩
  · intro j v hv
    rw [List.getElem?_map] at hv
    rcases Nat.lt_or_ge j (n * s) with hj | hj
    · rw [List.getElem?_range hj] at hv
      simp only [Option.map_some, Option.some.injEq] at hv
      have hf : f j = (key j hj).choose := by simp only [f]; rw [dif_pos hj]
      rw [add_at, ← hv, hf]
      exact (key j hj).choose_spec.1
    · rw [List.getElem?_eq_none (by simpa using hj)] at hv
      cases hv
  · intro r row hrow c q hq
    have hc : c < s := by rw [← hlen row (List.mem_of_getElem? hrow)]; exact lt_of_some hq
    have hr : r < n := by rw [← hn]; exact lt_of_get hrow
    have hj : r * s + c < n * s := by
      have : r * s + s ≤ n * s := by rw [← Nat.succ_mul]; exact Nat.mul_le_mul_right s hr
      omega
    refine ⟨f (r * s + c), by rw [List.getElem?_map, List.getElem?_range hj]; rfl, ?_⟩
    have hf : f (r * s + c) = (key _ hj).choose := by simp only [f]; rw [dif_pos hj]
    rw [hf]
    have e1 : (r * s + c) / s = r := by rw [Nat.mul_comm, Nat.mul_add_div hs, Nat.div_eq_of_lt hc]; rfl
    have e2 : (r * s + c) % s = c := by rw [Nat.mul_comm, Nat.mul_add_mod]; exact Nat.mod_eq_of_lt hc
    exact (key _ hj).choose_spec.2 row q (by rw [e1]; exact hrow) (by rw [e2]; exact hq)

/-- What a slice's cells hold. -/
theorem src_cells {X : Ctx} {T : Tab} {a : Act} {w : World} (h : HoldsT X T σ a w) {x : Value} {q : V} {s : Nat} {rows : List (List V)} (hx : Rep w (Live X.A T σ.objs) T q x) (hr : rowsOf σ s q = some rows) (hs : 0 < s) :
    (rows = [] ∧ ∃ (c : Nat), x = .slice none 0 c) ∨ ∃ (b o c : Nat) (news : List Value), x = .slice (some ⟨b, o, none⟩) rows.length c ∧ news.length = rows.length * s ∧
      (∀ (j : Nat) (v : Value), news[j]? = some v → w.cell? ((⟨b, o, none⟩ : Addr).add j) = some v) ∧
      (∀ (r : Nat) (row : List V), rows[r]? = some row → ∀ (c : Nat) (q : V), row[c]? = some q → ∃ v, news[r * s + c]? = some v ∧ Rep w (Live X.A T σ.objs) T q v) ∧
      (∀ row ∈ rows, row.length = s ∧ ∀ q ∈ row, q.one = true) := by
  cases q with
  | ro s' rows' =>
    simp only [rowsOf] at hr
    split at hr
    · rename_i he
      injection hr with hr
      subst hr
      have := Nat.eq_of_beq_eq_true he
      subst this
      rcases rep_ro hx with ⟨e1, e2⟩ | ⟨b, o, cap, val, e1, h1, h2, h3, h4, h5, h6⟩
      · exact .inl ⟨e2, 0, e1⟩
      · obtain ⟨news, g1, g2, g3⟩ := flat_fn (w := w) (b := b) (o := o) (R := Rep w (Live X.A T σ.objs) T) hs rfl (fun row hrow => (h4 row hrow).1)
          (fun r row hrow c q hq => ⟨val r c, h5 r row hrow c q hq, .pure (h6 r row hrow c q hq)⟩)
        exact .inr ⟨b, o, cap, news, e1, g1, g2, g3, h4⟩
    · cases hr
  | sl k off len =>
    simp only [rowsOf] at hr
    split at hr
    · rename_i ob hob
      split at hr
      · rename_i he hle
        injection hr with hr
        subst hr
        have := Nat.eq_of_beq_eq_true he
        subst this
        have hle := Nat.le_of_ble_eq_true hle
        obtain ⟨b, s', cap, hT, hc, _, e1⟩ := rep_sl hx
        obtain ⟨b', hT', hA, C, t, hb, hrows, hcells⟩ := h.mem.obj k ob hob
        rw [hT] at hT'
        injection hT' with hT'
        injection hT' with i1 i2
        subst i1 i2
        have hlen : ((ob.rows.drop off).take len).length = len := by simp; omega
        obtain ⟨news, g1, g2, g3⟩ := flat_fn (w := w) (b := b) (o := off * ob.s) (rows := (ob.rows.drop off).take len) (R := Rep w (Live X.A T σ.objs) T) hs rfl
          (fun row hrow => (hrows row (List.mem_of_mem_drop (List.mem_of_mem_take hrow))).1)
          (fun r row hrow c q hq => by
            rw [List.getElem?_take] at hrow
            split at hrow
            · rw [List.getElem?_drop] at hrow
              obtain ⟨v, h1, h2⟩ := hcells _ row hrow c q hq
              refine ⟨v, ?_, h2⟩
              rw [show off * ob.s + (r * ob.s + c) = (off + r) * ob.s + c by rw [Nat.add_mul]; omega]
              simp [World.cell?, hb, h1]
            · cases hrow)
        refine .inr ⟨b, off * ob.s, cap, news, by rw [hlen]; exact e1, g1, g2, g3, fun row hrow => hrows row (List.mem_of_mem_drop (List.mem_of_mem_take hrow))⟩
      · cases hr
    · cases hr
  | sc v =>
    have := rep_sc hx
    subst this
    cases x with
    | slice ad n c =>
      cases ad with
      | none =>
        cases n with
        | zero => simp only [rowsOf] at hr; cases hr; exact .inl ⟨rfl, c, rfl⟩
        | succ n => simp [rowsOf] at hr
      | some ad => simp [rowsOf] at hr
    | _ => simp [rowsOf] at hr
  | _ => simp [rowsOf] at hr

/-- An object is given up. -/
theorem HoldsT.kill {X : Ctx} {T : Tab} {a : Act} {w : World} (h : HoldsT X T σ a w) (k : Nat) :
    HoldsT X T { σ with objs := σ.objs.set k none } a w ∧ (∀ (q : V) (v : Value), Rep w (Live X.A T σ.objs) T q v → Rep w (Live X.A T (σ.objs.set k none)) T q v) ∧
    (∀ b, Live X.A T (σ.objs.set k none) b → Live X.A T σ.objs b) := by
  have hget : ∀ (j : Nat) (x : Ob), (σ.objs.set k none)[j]? = some (some x) → σ.objs[j]? = some (some x) := by
    intro j x hj
    rw [List.getElem?_set] at hj
    split at hj
    · split at hj <;> cases hj
    · exact hj
  have hl : ∀ b, Live X.A T (σ.objs.set k none) b → Live X.A T σ.objs b := by
    rintro b (h1 | ⟨j, x, s, h1, h2⟩)
    · exact .inl h1
    · exact .inr ⟨j, x, s, hget j x h1, h2⟩
  have hrep : ∀ (q : V) (v : Value), Rep w (Live X.A T σ.objs) T q v → Rep w (Live X.A T (σ.objs.set k none)) T q v := fun q v hq => hq.congr hl
  refine ⟨⟨h.pre, ⟨by simp [h.mem.len], ?_, fun i j x y b s s' hi hj => h.mem.inj i j x y b s s' (hget i x hi) (hget j y hj), h.mem.avoid⟩, fun t v hv => hrep _ _ (h.tmp t v hv), h.size, h.defers, h.keep, h.fresh, h.avoid0, h.hm, h.hmods⟩, hrep, hl⟩
  intro j x hj
  obtain ⟨b, h1, h2, C, t, h3, h4, h5⟩ := h.mem.obj j x (hget j x hj)
  refine ⟨b, h1, h2, C, t, h3, h4, fun r row hr c q hq => ?_⟩
  obtain ⟨v, h6, h7⟩ := h5 r row hr c q hq
  exact ⟨v, h6, hrep _ _ h7⟩

/-! ### What the machine does -/

theorem run_app_nil (w : World) (t tx ty e e' : TypeId) (i : TypeInfo) (z : Value) (ht : P.underlying t = some (.slice e)) (hx : P.underlying tx = some (.slice e')) (hi : P.info? e = some i) (hz : i.zero = some z)
    (a : Addr) (n c : Nat) (news : List Value) (hl : news.length = n * i.size) (hnews : ∀ (j : Nat) (v : Value), news[j]? = some v → w.cell? (a.add j) = some v)
    (h0 : 0 < n) (h63 : n ≤ 9223372036854775807) (h48 : n * i.bytes ≤ 281474976710656) :
    ∃ C, (Builtin.append_ #[t, tx] ty #[.slice none 0 0, .slice (some a) n c]).run P w =
      .ok (.slice (some ⟨w.heap.size, 0, none⟩) n (grownCap w n 0 e)) (more w.drew (.cells (news.toArray ++ C) e (0, 0))) ∧ C.size = (grownCap w n 0 e - n) * z.cells.size := by
  have hn : n ≠ 0 := by omega
  have h63' : ¬ (9223372036854775807 < (n : Int)) := by omega
  have h48' : ¬ (281474976710656 < Builtin.nextslicecap n 0 * i.bytes) := by rw [nextslicecap_zero h0]; omega
  have hf := run_firstCells_some (P := P) w.drew i.size n a n c news hl (by simpa using hnews)
  exact ⟨Builtin.zeroCells z.cells (grownCap w n 0 e - n), by
    simp [Builtin.append_, run_underlying ht, run_underlying hx, sizeOf, typeInfo, zeroValue, hi, hz, Builtin.lenOf, hn, h63', h48', Question.forced, run_firstCells_none, hf, newRow, grownCap, more]
    rfl, size_zeroCells _ _⟩

theorem run_app_grow (w : World) (t tx ty e e' : TypeId) (i : TypeInfo) (z : Value) (ht : P.underlying t = some (.slice e)) (hx : P.underlying tx = some (.slice e')) (hi : P.info? e = some i) (hz : i.zero = some z)
    (b : Addr) (sLen sCap : Nat) (olds : List Value) (hlo : olds.length = sLen * i.size) (holds : ∀ (j : Nat) (v : Value), olds[j]? = some v → w.cell? (b.add j) = some v)
    (a : Addr) (n c : Nat) (news : List Value) (hl : news.length = n * i.size) (hnews : ∀ (j : Nat) (v : Value), news[j]? = some v → w.cell? (a.add j) = some v)
    (hg : sCap < sLen + n) (h63 : sLen + n ≤ 9223372036854775807) (hfit : (sLen + n) * i.bytes ≤ 140737488355328) :
    ∃ C, (Builtin.append_ #[t, tx] ty #[.slice (some b) sLen sCap, .slice (some a) n c]).run P w =
      .ok (.slice (some ⟨w.heap.size, 0, none⟩) (sLen + n) (grownCap w (sLen + n) sCap e))
        (more w.drew (.cells ((olds ++ news).toArray ++ C) e (0, 0))) ∧ C.size = (grownCap w (sLen + n) sCap e - (sLen + n)) * z.cells.size := by
  have hn : ¬ (sLen + n ≤ sCap) := by omega
  have h63' : ¬ (9223372036854775807 < ((sLen : Int) + (n : Int))) := by omega
  have h48' : ¬ (281474976710656 < Builtin.nextslicecap (sLen + n) sCap * i.bytes) := by have := growslice_fits hg hfit; omega
  have hf := run_firstCells_some (P := P) w.drew i.size n a n c news hl (by simpa using hnews)
  have hfo := run_firstCells_some (P := P) w.drew i.size sLen b sLen sCap olds hlo (by simpa using holds)
  refine ⟨Builtin.zeroCells z.cells (grownCap w (sLen + n) sCap e - (sLen + n)), ?_, size_zeroCells _ _⟩
  simp [Builtin.append_, run_underlying ht, run_underlying hx, sizeOf, typeInfo, zeroValue, hi, hz, Builtin.lenOf, hn, h63', h48', Question.forced, hf, hfo, newRow, grownCap, more]
  generalize Builtin.zeroCells z.cells _ = Z
  have e : olds.toArray ++ (news.toArray ++ Z) = (olds ++ news).toArray ++ Z := by apply Array.ext'; simp
  rw [e]
  rfl

theorem run_app_room (w : World) (t tx ty e e' t' : TypeId) (i : TypeInfo) (ht : P.underlying t = some (.slice e)) (hx : P.underlying tx = some (.slice e')) (hi : P.info? e = some i)
    (g sLen sCap : Nat) (cur : Array Value) (hg : w.heap[g]? = some (.cells cur t' (0, 0)))
    (a : Addr) (m c : Nat) (news : List Value) (hl : news.length = m * i.size) (hnews : ∀ (j : Nat) (u : Value), news[j]? = some u → w.cell? (a.add j) = some u) (h1 : ∀ u ∈ news, u.oneCell' = true)
    (hroom : sLen + m ≤ sCap) (hfit : sLen * i.size + news.length ≤ cur.size) :
    (Builtin.append_ #[t, tx] ty #[.slice (some ⟨g, 0, none⟩) sLen sCap, .slice (some a) m c]).run P w =
      .ok (.slice (some ⟨g, 0, none⟩) (sLen + m) sCap) (w.setRow g (cur.toList.take (sLen * i.size) ++ news ++ cur.toList.drop (sLen * i.size + news.length)).toArray) := by
  have hf := run_firstCells_some (P := P) w i.size m a m c news hl hnews
  have hst := run_storeCells_at P g (sLen * i.size) t' news 0 cur w hg (by simpa using hfit) h1
  simp only [Nat.add_zero] at hst
  simp [Builtin.append_, run_underlying ht, run_underlying hx, sizeOf, typeInfo, hi, Builtin.lenOf, hroom, hf, Addr.add_lit, hst]

theorem run_app_none (w : World) (t tx ty e e' : TypeId) (i : TypeInfo) (ht : P.underlying t = some (.slice e)) (hx : P.underlying tx = some (.slice e')) (hi : P.info? e = some i)
    (b : Option Addr) (sLen sCap : Nat) (hc : sLen ≤ sCap) (a : Option Addr) (c : Nat) :
    (Builtin.append_ #[t, tx] ty #[.slice b sLen sCap, .slice a 0 c]).run P w = .ok (.slice b sLen sCap) w := by
  cases a <;> cases b <;> simp [Builtin.append_, run_underlying ht, run_underlying hx, sizeOf, typeInfo, hi, Builtin.lenOf, hc, Builtin.firstCells, loadCells, loadCellsFrom, storeCells]

end Go.Proofs.Ytohchoelhnipmaa.Q
