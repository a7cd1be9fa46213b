/- A text's bytes as a slice: what is made is written by nobody. -/
import Derived.Test.YtjljgldgkkfckaaDoorMMake
import Derived.Laws.IdiomStrings
namespace Go.Proofs.YtjljgldgkkfckaaDoor.M
open Go Go.RowKit
set_option linter.unusedSimpArgs false
set_option linter.unusedVariables false

variable {ρ : Nat → Value} {P : Program} {σ : St} {K : Ex → St → Prop}

/-- A block more, of which nobody speaks. -/
theorem HoldsT.aside {X : Ctx} {T : Tab} {a : Act} {w : World} (h : HoldsT ρ X T σ a w) (o : Obj) : HoldsT ρ X T σ a (more w o) := by
  have hrep : ∀ (q : V) (v : Value), Rep ρ w (Live X.A T σ.objs) T q v → Rep ρ (more w o) (Live X.A T σ.objs) T q v :=
    fun q v hq => hq.later (by rw [more_size]; omega) (fun b hb _ => more_old w _ hb) (fun b hb hn => hn) (fun b C' t fr hb => ⟨C', fr, by rw [more_old w _ (lt_heap hb)]; exact hb, rfl⟩) (fun _ _ h => h)
  refine ⟨h.pre, ⟨fun b hb => by rw [more_size]; have := h.mem.avoid b hb; omega, fun k p hk => by rw [more_size]; have := h.mem.low k p hk; omega, fun k ob hk => ?_, h.mem.inj,
    h.mem.glob.later (by rw [more_size]; omega) (fun b hb _ => more_old w _ hb) (fun b hb hn => hn)⟩, h.top, fun t => hrep _ _ (h.tmp t), h.size, h.defers.map hrep,
    h.keep.trans ⟨rfl, rfl, rfl, by rw [more_size]; omega, fun b hb _ => more_old w _ hb, fun b C t fr hb => ⟨C, fr, by rw [more_old w _ (lt_heap hb)]; exact hb, rfl⟩⟩, h.fresh, h.old, h.stay,
    h.pc.trans' (fun _ _ _ h => h) h.stay h.pre (SameC.of_blocks h.mem.low fun b hb => more_old w _ hb), h.hforb, h.hks⟩
  obtain ⟨p, h1, hA, h2, C, t, h3, h4⟩ := h.mem.obj k ob hk
  refine ⟨p, h1, hA, h2, C, t, by rw [more_old w _ (lt_heap h3)]; exact h3, fun r row hr => ?_⟩
  obtain ⟨g1, g2, g3⟩ := h4 r row hr
  refine ⟨g1, g2, fun c q hq => ?_⟩
  obtain ⟨v, h6, h7⟩ := g3 c q hq
  exact ⟨v, h6, hrep _ _ h7⟩

theorem StepT.aside {C : CellP} {T : Tab} {objs : Objs} {w w1 : World} (e : w1.heap = w.heap) (o : Obj) (hl : ∀ (k : Nat) (p : Pl), T k = some p → p.b < w.heap.size) : StepT C T objs w T objs (more w1 o) := by
  have hb : ∀ b, b < w.heap.size → (more w1 o).heap[b]? = w.heap[b]? := fun b hb => by rw [more_old w1 o (by rw [e]; exact hb), e]
  exact ⟨⟨by rw [more_size, e]; omega, fun b h _ => hb b h⟩, SameC.of_blocks hl hb, fun _ _ h => h, fun _ _ _ _ h => h, fun _ _ h => h, fun k p h _ => ⟨k, p, h, rfl⟩⟩

/-- The bytes of a packed text, one a row. -/
def byteRows (len n : Nat) : List (List V) := (List.range len).map fun i => [.int .u8 (.ofNat (n / 256 ^ i % 256))]

theorem byteRows_get {len n i : Nat} (h : i < len) : (byteRows len n)[i]? = some [.int .u8 (.ofNat (n / 256 ^ i % 256))] := by
  unfold byteRows
  rw [List.getElem?_map, List.getElem?_range h]
  rfl
theorem byteRows_length (len n : Nat) : (byteRows len n).length = len := by simp [byteRows]

def StrBytes (P : Program) (t u : TypeId) : Bool := match P.underlying t, P.underlying u with
  | some .string, some (.slice e) => match P.underlying e with
    | some (.int .u8) => true
    | _ => false
  | _, _ => false

theorem qo_strBytes {C : CellP} {o : Oper} {x : Operand} {t u : TypeId} {len n : Nat} {N : St → Prop} (ho : o.op = .convert t u x) (hx : evalV σ x = .ps len n) (ht : StrBytes P t u = true) (hd : dstOK o σ)
    (h : N (σ.put o.dst (.ro 1 (byteRows len n)))) : QO ρ P C o σ N K := by
  unfold StrBytes at ht
  split at ht
  · rename_i e h1 h2
    split at ht
    · rename_i h3
      intro X T a w hh
      obtain ⟨e1, hn⟩ := rep_ps (ev_rep hh hx)
      have hrun := run_bytes_of_string (P := P) w t u e (unpack len n) h1 h2 h3
      have hex : (execOp a.eval o).run P w = .ok (.value (.slice (some ⟨w.heap.size, 0, none⟩) (unpack len n).size (grownCap w (unpack len n).size 0 e))) (more w.drew (.cells (bytesRow (unpack len n) (grownCap w (unpack len n).size 0 e)) e ((bytesRow (unpack len n) (grownCap w (unpack len n).size 0 e)).size, (bytesRow (unpack len n) (grownCap w (unpack len n).size 0 e)).size + 1))) := by
        simp only [execOp, ho, e1, Sem.run_bind, hrun, Result.andThen, Sem.run_pure]
        rfl
      generalize hcap : grownCap w (unpack len n).size 0 e = cap at hex
      have hge : len ≤ cap := by
        have := grown_ge w (unpack len n).size 0 e
        rw [unpack_size] at this
        rw [← hcap, unpack_size]
        exact this
      generalize hC : bytesRow (unpack len n) cap = Cs at hex
      have hcell : ∀ i, i < len → Cs[i]? = some (.int .u8 (((n / 256 ^ i % 256 : Nat)) : Int)) := by
        intro i hi
        rw [← hC]
        unfold bytesRow
        have hs : (unpack len n).data.size = len := unpack_size len n
        rw [Array.getElem?_append_left (by simp [hs, hi])]
        rw [Array.getElem?_map]
        have : (unpack len n).data[i]? = some (UInt8.ofNat (n / 256 ^ i % 256)) := by
          show (bytesL len n).toArray[i]? = _
          rw [List.getElem?_toArray]
          exact bytesL_get len n i hi
        rw [this]
        simp
      unfold Oper.wp
      rw [hex]
      have hh1 := (hh.congr (w' := w.drew) rfl rfl rfl rfl).aside (.cells Cs e (Cs.size, Cs.size + 1))
      refine ⟨T, _, h, hh1.put ?_ hd, ?_⟩
      · rw [unpack_size]
        have hroom : (more w.drew (.cells Cs e (Cs.size, Cs.size + 1))).heap[w.heap.size]? = some (.cells Cs e (Cs.size, Cs.size + 1)) := more_new w.drew _
        have cellAt : ∀ i, i < len → (more w.drew (.cells Cs e (Cs.size, Cs.size + 1))).cell? ⟨w.heap.size, i, none⟩ = some (.int .u8 (((n / 256 ^ i % 256 : Nat)) : Int)) := by
          intro i hi
          unfold World.cell?
          simp only [hroom]
          exact hcell i hi
        have := RepP.ro (ρ := ρ) (w := more w.drew (.cells Cs e (Cs.size, Cs.size + 1))) (L := Live X.A T σ.objs) 1 (byteRows len n) w.heap.size 0 cap (fun r _ => .int .u8 (((n / 256 ^ r % 256 : Nat)) : Int))
          (fun hl => by
            rcases hl with g | ⟨k, ob, p, g1, g2, g3⟩
            · exact Nat.lt_irrefl _ (hh.mem.avoid _ g)
            · have := hh.mem.low k p g2; omega)
          (by rw [more_size]; show w.heap.size < w.heap.size + 1; omega) (by rw [byteRows_length]; exact hge)
          (fun row hrow => by
            obtain ⟨i, _, rfl⟩ := List.mem_map.mp hrow
            exact ⟨rfl, fun q hq => by simp at hq; subst hq; rfl⟩)
          (fun r row hr c q hq => by
            have hlt := lt_of_get hr
            rw [byteRows_length] at hlt
            rw [byteRows_get hlt] at hr
            cases hr
            have hc0 : c = 0 := by have := lt_of_get hq; simp at this; omega
            subst hc0
            simpa using cellAt r hlt)
          (fun r row hr c q hq => by
            have hlt := lt_of_get hr
            rw [byteRows_length] at hlt
            rw [byteRows_get hlt] at hr
            cases hr
            have hc0 : c = 0 := by have := lt_of_get hq; simp at this; omega
            subst hc0
            simp at hq
            subst hq
            exact .int _ _)
        rw [byteRows_length] at this
        exact .pure this
      · rw [put_objs]
        exact StepT.aside (w := w) (w1 := w.drew) rfl _ hh.mem.low
    · cases ht
  · cases ht

/-- A value without objects. -/
def V.flat : V → Bool
  | .ptr .. | .sl .. | .fn .. | .ifc .. | .agg _ | .tup _ => false
  | _ => true

theorem repP_flat {w : World} {L : Nat → Prop} {T : Tab} {q : V} {v : Value} (h : Rep ρ w L T q v) (hf : q.flat = true) : RepP ρ w L q v := by
  cases h with
  | pure h => exact h
  | _ => cases hf


/-! ### A slice as one of its own type: from now on nobody writes it -/

/-- The world with a mark at a block. -/
def markd (w : World) (b : Nat) (C : Array Value) (t : TypeId) (fr : Nat × Nat) : World := { w with heap := w.heap.setIfInBounds b (.cells C t fr) }
theorem markd_same (w : World) {b : Nat} (C : Array Value) (t : TypeId) (fr : Nat × Nat) (hb : b < w.heap.size) : (markd w b C t fr).heap[b]? = some (.cells C t fr) := by
  show (w.heap.setIfInBounds b _)[b]? = _
  simp [hb]
theorem markd_other (w : World) {b b' : Nat} (C : Array Value) (t : TypeId) (fr : Nat × Nat) (hb : b' ≠ b) : (markd w b C t fr).heap[b']? = w.heap[b']? := by
  show (w.heap.setIfInBounds b _)[b']? = _
  rw [Array.getElem?_setIfInBounds_ne (Ne.symm hb)]
theorem markd_size (w : World) (b : Nat) (C : Array Value) (t : TypeId) (fr : Nat × Nat) : (markd w b C t fr).heap.size = w.heap.size := by
  show (w.heap.setIfInBounds b _).size = _
  simp
theorem markd_cell (w : World) {b : Nat} (C : Array Value) (t : TypeId) (fr fr0 : Nat × Nat) (h : w.heap[b]? = some (.cells C t fr0)) (a : Addr) : (markd w b C t fr).cell? a = w.cell? a := by
  unfold World.cell?
  by_cases e : a.block = b
  · rw [e, markd_same w C t fr (lt_heap h), h]
  · rw [markd_other w C t fr e]

theorem HoldsT.shut {X : Ctx} {T : Tab} {a : Act} {w : World} {k : Nat} {ob : Ob} {p : Pl} {C : Array Value} {t : TypeId} {fr : Nat × Nat} (h : HoldsT ρ X T σ a w) (hk : σ.objs k = some ob) (hT : T k = some p) (hb : w.heap[p.b]? = some (.cells C t (0, 0))) (hforb : ∀ r c, ¬ σ.forb k r c) :
    HoldsT ρ X T { σ with objs := Objs.put σ.objs k none } a (markd w p.b C t fr) ∧ (∀ D : CellP, (∀ r c, ¬ D k r c) → StepT D T σ.objs w T (Objs.put σ.objs k none) (markd w p.b C t fr)) ∧ ¬ Live X.A T (Objs.put σ.objs k none) p.b := by
  have hblt := lt_heap hb
  have hput : ∀ {j : Nat} {x : Ob}, Objs.put σ.objs k none j = some x → j ≠ k ∧ σ.objs j = some x := by
    intro j x hj
    unfold Objs.put at hj
    by_cases e : j = k
    · rw [if_pos e] at hj; cases hj
    · rw [if_neg e] at hj; exact ⟨e, hj⟩
  have hliveO : ∀ b, LiveO T (Objs.put σ.objs k none) b → LiveO T σ.objs b := fun b ⟨j, x, q, h1, h2, h3⟩ => ⟨j, x, q, (hput h1).2, h2, h3⟩
  have hlive : ∀ b, Live X.A T (Objs.put σ.objs k none) b → Live X.A T σ.objs b := fun b h => h.imp id (hliveO b)
  have hliveK : LiveO T σ.objs p.b := ⟨k, ob, p, hk, hT, rfl⟩
  have hnA : ¬ X.A p.b := by
    obtain ⟨q, h1, h2, _⟩ := h.mem.obj k ob hk
    rw [hT] at h1
    cases h1
    exact h2
  have hcell : ∀ a : Addr, (markd w p.b C t fr).cell? a = w.cell? a := markd_cell w C t fr _ hb
  have hrep : ∀ (q : V) (v : Value), Rep ρ w (Live X.A T σ.objs) T q v → Rep ρ (markd w p.b C t fr) (Live X.A T (Objs.put σ.objs k none)) T q v :=
    fun q v hq => hq.later (by rw [markd_size]; exact Nat.le_refl _) (fun b _ hn => markd_other w _ _ _ (fun e => hn (.inr (e ▸ hliveK)))) (fun b _ hn hl => hn (hlive b hl))
      (fun b C' t' fr' hb' => by
        by_cases e : b = p.b
        · subst e
          rw [hb] at hb'
          cases hb'
          exact ⟨C, fr, markd_same w _ _ _ hblt, rfl⟩
        · exact ⟨C', fr', by rw [markd_other w _ _ _ e]; exact hb', rfl⟩) (fun _ _ h => h)
  have hM : X.w0.heap.size ≤ p.b ∨ X.M p.b := by
    cases hx : X.T0 k with
    | none => exact h.fresh k p hx hT
    | some q =>
      have h1 := h.pre k q hx
      rw [hT] at h1
      cases h1
      have h2 := h.old k (by rw [hx]; simp) (by rw [hk]; simp)
      cases ho : X.objs0 k with
      | none => exact (h2 ho).elim
      | some z => exact .inr ⟨k, z, p, ho, hx, rfl⟩
  have hsame : ∀ D : CellP, SameC T σ.objs D w (markd w p.b C t fr) := fun D j r c q _ _ _ _ => hcell _
  refine ⟨⟨h.pre, ⟨fun b hb => by rw [markd_size]; exact h.mem.avoid b hb, fun j q hj => by rw [markd_size]; exact h.mem.low j q hj, ?_, fun i j x y q r hi hj hqi hqj hb2 => h.mem.inj i j x y q r (hput hi).2 (hput hj).2 hqi hqj hb2,
    h.mem.glob.later (by rw [markd_size]; exact Nat.le_refl _) (fun b _ hn => markd_other w _ _ _ (fun e => hn (.inr (e ▸ hliveK)))) (fun b _ hn hl => hn (hlive b hl))⟩, ?_, fun t => hrep _ _ (h.tmp t), h.size, h.defers.map hrep, ?_, h.fresh, ?_, ?_,
    h.pc.trans' (fun _ _ _ h => h) h.stay h.pre (hsame X.forb), h.hforb, h.hks⟩, fun D hD => ⟨⟨by rw [markd_size]; exact Nat.le_refl _, ?_⟩, hsame D, fun _ _ h => h, ?_, fun b _ hl => hliveO b hl, fun j q hj _ => ⟨j, q, hj, rfl⟩⟩, ?_⟩
  · intro j x hj
    obtain ⟨hne, hj'⟩ := hput hj
    obtain ⟨q, h1, hA, h2, C', t', h3, h4⟩ := h.mem.obj j x hj'
    have hne : q.b ≠ p.b := fun e' => hne (h.mem.inj j k x ob q p hj' hk h1 hT e')
    refine ⟨q, h1, hA, h2, C', t', by rw [markd_other w _ _ _ hne]; exact h3, fun r row hr => ?_⟩
    obtain ⟨g1, g2, g3⟩ := h4 r row hr
    refine ⟨g1, g2, fun c q hq => ?_⟩
    obtain ⟨v, h6, h7⟩ := g3 c q hq
    exact ⟨v, h6, hrep _ _ h7⟩
  · intro j hj
    obtain ⟨g1, g2⟩ := h.top j hj
    refine ⟨g1, ?_⟩
    show Objs.put σ.objs k none j = none
    unfold Objs.put
    split
    · rfl
    · exact g2
  · have hk2 := h.keep
    refine ⟨hk2.os, hk2.tape, hk2.output, by rw [markd_size]; exact hk2.size, fun b1 hb1 hn => ?_, fun b1 C2 t2 fr2 hb1 => ?_⟩
    · rw [markd_other w _ _ _ (fun e => by
        rw [e] at hb1 hn
        rcases hM with g | g
        · omega
        · exact hn g)]
      exact hk2.block b1 hb1 hn
    · obtain ⟨C3, fr3, h1, h2⟩ := hk2.shape b1 C2 t2 fr2 hb1
      by_cases e : b1 = p.b
      · subst e
        rw [hb] at h1
        cases h1
        exact ⟨C, fr, markd_same w _ _ _ hblt, h2⟩
      · exact ⟨C3, fr3, by rw [markd_other w _ _ _ e]; exact h1, h2⟩
  · intro j h1 h2
    refine h.old j h1 ?_
    have h2' : Objs.put σ.objs k none j ≠ none := h2
    unfold Objs.put at h2'
    split at h2'
    · exact (h2' rfl).elim
    · exact h2'
  · intro j r c h1 h2
    show Objs.put σ.objs k none j ≠ none
    unfold Objs.put
    by_cases e : j = k
    · subst e
      rw [h.hforb] at h1
      exact (hforb _ _ h1).elim
    · rw [if_neg e]
      exact h.stay j r c h1 h2
  · intro b hb hn
    exact markd_other w _ _ _ (fun e => hn (e ▸ hliveK))
  · intro j r c h1 h2
    unfold Objs.put
    by_cases e : j = k
    · subst e
      exact (hD _ _ h1).elim
    · rw [if_neg e]
      exact h2
  · rintro (g | ⟨j, x, q, h1, h2, h3⟩)
    · exact hnA g
    · obtain ⟨hne, h1⟩ := hput h1
      exact hne (h.mem.inj j k x ob q p h1 hk h2 hT h3)

theorem modify_set (a : Array Obj) (i : Nat) (x y : Obj) (f : Obj → Obj) (h : a[i]? = some x) (hf : f x = y) : a.modify i f = a.setIfInBounds i y := by
  apply Array.ext
  · simp
  · intro j h1 h2
    have hj : j < a.size := by simpa using h1
    rw [Array.getElem_modify]
    by_cases e : i = j
    · subst e
      have : a[i] = x := by
        rw [Array.getElem?_eq_getElem hj] at h
        exact Option.some.inj h
      simp [this, hf]
    · rw [if_neg e]
      simp [Array.getElem_setIfInBounds, e, hj]

def SelfBytes (P : Program) (t u : TypeId) : Bool := Nat.beq t u && match P.underlying t with
  | some (.slice e) => match P.underlying e with
    | some (.int .u8) => true
    | _ => false
  | _ => false

theorem run_selfBytes {w : World} {t e : TypeId} {a : Addr} {l c : Nat} {C : Array Value} {t' : TypeId} (h1 : P.underlying t = some (.slice e)) (h2 : P.underlying e = some (.int .u8)) (hb : w.heap[a.block]? = some (.cells C t' (0, 0))) :
    (convert t t (.slice (some a) l c)).run P w = .ok (.slice (some a) l c) (markd w a.block C t' (C.size, C.size + 1)) := by
  have hsh : w.shape? a.block = some (t', C.size) := by
    unfold World.shape?
    rw [hb]
  have hfr : w.freeze ⟨a.block, C.size, none⟩ 1 = markd w a.block C t' (C.size, C.size + 1) := by
    unfold World.freeze markd
    rw [if_neg (by decide)]
    rw [modify_set w.heap a.block _ _ _ hb rfl]
    rfl
  simp [convert, run_underlying h1, run_underlying h2, markStringish, hsh]
  exact hfr

theorem qo_selfBytes {C : CellP} {o : Oper} {x : Operand} {t u : TypeId} {k len : Nat} {full : Bool} {ob : Ob} {rows : List (List V)} {N : St → Prop} (ho : o.op = .convert t u x) (hx : evalV σ x = .sl k 0 len full) (ht : SelfBytes P t u = true) (hk : σ.objs k = some ob) (hs : ob.s = 1)
    (hl : rows.length = len) (hrows : ∀ (r : Nat) (row : List V), rows[r]? = some row → ob.row r = some row ∧ ∀ q ∈ row, q.flat = true) (hC : ∀ r c, ¬ C k r c) (hforb : ∀ r c, ¬ σ.forb k r c) (hd : dstOK o σ)
    (h : N (St.put { σ with objs := Objs.put σ.objs k none } o.dst (.ro 1 rows))) : QO ρ P C o σ N K := by
  unfold SelfBytes at ht
  rw [Bool.and_eq_true] at ht
  obtain ⟨htu, ht⟩ := ht
  have htu := Nat.eq_of_beq_eq_true htu
  subst htu
  split at ht
  · rename_i e h1
    split at ht
    · rename_i h2
      intro X T a w hh
      obtain ⟨p, at_, cap, hT, ha, hc, hf, _, e1⟩ := rep_sl (ev_rep hh hx)
      obtain ⟨p', hT', hA, hs', Cs, t', hb, hcells⟩ := hh.mem.obj k ob hk
      rw [hT] at hT'
      cases hT'
      have hex : (execOp a.eval o).run P w = .ok (.value (.slice (some ⟨p.b, at_, none⟩) len cap)) (markd w p.b Cs t' (Cs.size, Cs.size + 1)) := by
        simp only [execOp, ho, e1, Sem.run_bind, run_selfBytes (P := P) (w := w) (a := ⟨p.b, at_, none⟩) (l := len) (c := cap) h1 h2 hb, Result.andThen, Sem.run_pure]
      obtain ⟨g1, g2, g3⟩ := hh.shut (fr := (Cs.size, Cs.size + 1)) hk hT hb hforb
      unfold Oper.wp
      rw [hex]
      have hrow : ∀ (r : Nat) (row : List V), rows[r]? = some row → row.length = 1 ∧ (∀ q ∈ row, q.one = true) ∧ ∀ (c : Nat) (q : V), row[c]? = some q → ∃ v, Cs[p.o + (r * p.s + c)]? = some v ∧ Rep ρ w (Live X.A T σ.objs) T q v := by
        intro r row hr
        obtain ⟨j1, j2, j3⟩ := hcells r row (hrows r row hr).1
        exact ⟨by rw [j1, hs], j2, j3⟩
      have hval : ∃ val : Nat → Nat → Value, ∀ (r : Nat) (row : List V), rows[r]? = some row → ∀ (c : Nat) (q : V), row[c]? = some q → Cs[p.o + (r * p.s + c)]? = some (val r c) ∧ Rep ρ w (Live X.A T σ.objs) T q (val r c) := by
        refine ⟨fun r c => (Cs[p.o + (r * p.s + c)]?).getD undef, fun r row hr c q hq => ?_⟩
        obtain ⟨v, j1, j2⟩ := (hrow r row hr).2.2 c q hq
        show Cs[p.o + (r * p.s + c)]? = some ((Cs[p.o + (r * p.s + c)]?).getD undef) ∧ Rep ρ w (Live X.A T σ.objs) T q ((Cs[p.o + (r * p.s + c)]?).getD undef)
        rw [j1]
        exact ⟨rfl, j2⟩
      obtain ⟨val, hval⟩ := hval
      refine ⟨T, _, h, g1.put ?_ hd, ?_⟩
      · have hps : p.s = 1 := by omega
        have key := RepP.ro (ρ := ρ) (w := markd w p.b Cs t' (Cs.size, Cs.size + 1)) (L := Live X.A T (Objs.put σ.objs k none)) 1 rows p.b at_ cap val g3 (by rw [markd_size]; exact lt_heap hb) (by omega)
          (fun row hr => by
            obtain ⟨r, hr⟩ := List.getElem?_of_mem hr
            exact ⟨(hrow r row hr).1, (hrow r row hr).2.1⟩)
          (fun r row hr c q hq => by
            rw [markd_cell w Cs t' _ _ hb, cell_at hb]
            have hlt := lt_of_get hr
            rcases ha with ha | ha
            · omega
            · have := (hval r row hr c q hq).1
              rw [hps] at this
              rw [ha, hps]
              simpa using this)
          (fun r row hr c q hq => by
            have := (hval r row hr c q hq).2
            have hflat : q.flat = true := (hrows r row hr).2 q (List.mem_of_getElem? hq)
            exact (repP_flat this hflat).later (by rw [markd_size]; exact Nat.le_refl _) (fun b _ hn => markd_other w _ _ _ (fun e => hn (.inr ⟨k, ob, p, hk, hT, e.symm⟩))) (fun b _ hn hl => hn (hl.imp id fun ⟨j, x, q, i1, i2, i3⟩ => by
              unfold Objs.put at i1
              split at i1
              · cases i1
              · exact ⟨j, x, q, i1, i2, i3⟩)))
        rw [hl] at key
        exact .pure key
      · rw [put_objs]
        exact g2 C hC
    · cases ht
  · cases ht

end Go.Proofs.YtjljgldgkkfckaaDoor.M
