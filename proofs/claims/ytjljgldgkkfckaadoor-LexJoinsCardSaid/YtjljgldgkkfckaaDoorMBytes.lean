/- A text's bytes as a slice: what is made is written by nobody. -/
import Derived.Test.YtjljgldgkkfckaaDoorMMake
import Derived.Laws.IdiomStrings
namespace Go.Proofs.YtjljgldgkkfckaaDoor.M
open Go Go.RowKit
set_option linter.unusedSimpArgs false
set_option linter.unusedVariables false

variable {ρ : Nat → Value} {P : Program} {σ : St} {K : Ex → St → Prop}

/-- A block more, of which nobody speaks. -/
theorem HoldsT.aside {X : Ctx} {T : Tab} {a : Act} {w : World} (h : HoldsT ρ X T σ a w) (o : Obj) : HoldsT ρ X T σ a (more w o) := by
  have hrep : ∀ (q : V) (v : Value), Rep ρ w (Live X.A T σ.objs) T q v → Rep ρ (more w o) (Live X.A T σ.objs) T q v :=
    fun q v hq => hq.later (by rw [more_size]; omega) (fun b hb _ => more_old w _ hb) (fun b hb hn => hn) (fun b C' t hb => ⟨C', by rw [more_old w _ (lt_heap hb)]; exact hb, rfl⟩) (fun _ _ h => h)
  refine ⟨h.pre, ⟨fun b hb => by rw [more_size]; have := h.mem.avoid b hb; omega, fun k p hk => by rw [more_size]; have := h.mem.low k p hk; omega, fun k ob hk => ?_, h.mem.inj,
    h.mem.glob.later (by rw [more_size]; omega) (fun b hb _ => more_old w _ hb) (fun b hb hn => hn)⟩, h.top, fun t => hrep _ _ (h.tmp t), h.size, h.defers.map hrep,
    h.keep.trans ⟨rfl, rfl, rfl, by rw [more_size]; omega, fun b hb _ => more_old w _ hb, fun b C t hb => ⟨C, by rw [more_old w _ (lt_heap hb)]; exact hb, rfl⟩⟩, h.fresh, h.old, h.stay,
    h.pc.trans' (fun _ _ _ h => h) h.stay h.pre (SameC.of_blocks h.mem.low fun b hb => more_old w _ hb), h.hforb, h.hks⟩
  obtain ⟨p, h1, hA, h2, C, t, h3, h4⟩ := h.mem.obj k ob hk
  refine ⟨p, h1, hA, h2, C, t, by rw [more_old w _ (lt_heap h3)]; exact h3, fun r row hr => ?_⟩
  obtain ⟨g1, g2, g3⟩ := h4 r row hr
  refine ⟨g1, g2, fun c q hq => ?_⟩
  obtain ⟨v, h6, h7⟩ := g3 c q hq
  exact ⟨v, h6, hrep _ _ h7⟩

theorem StepT.aside {C : CellP} {T : Tab} {objs : Objs} {w w1 : World} (e : w1.heap = w.heap) (o : Obj) (hl : ∀ (k : Nat) (p : Pl), T k = some p → p.b < w.heap.size) : StepT C T objs w T objs (more w1 o) := by
  have hb : ∀ b, b < w.heap.size → (more w1 o).heap[b]? = w.heap[b]? := fun b hb => by rw [more_old w1 o (by rw [e]; exact hb), e]
  exact ⟨⟨by rw [more_size, e]; omega, fun b h _ => hb b h⟩, SameC.of_blocks hl hb, fun _ _ h => h, fun _ _ _ _ h => h, fun _ _ h => h, fun k p h _ => ⟨k, p, h, rfl⟩⟩

/-- The bytes of a packed text, one a row. -/
def byteRows (len n : Nat) : List (List V) := (List.range len).map fun i => [.int .u8 (.ofNat (n / 256 ^ i % 256))]

theorem byteRows_get {len n i : Nat} (h : i < len) : (byteRows len n)[i]? = some [.int .u8 (.ofNat (n / 256 ^ i % 256))] := by
  unfold byteRows
  rw [List.getElem?_map, List.getElem?_range h]
  rfl
theorem byteRows_length (len n : Nat) : (byteRows len n).length = len := by simp [byteRows]

def StrBytes (P : Program) (t u : TypeId) : Bool := match P.underlying t, P.underlying u with
  | some .string, some (.slice e) => match P.underlying e with
    | some (.int .u8) => true
    | _ => false
  | _, _ => false

theorem qo_strBytes {C : CellP} {o : Oper} {x : Operand} {t u : TypeId} {len n : Nat} {N : St → Prop} (ho : o.op = .convert t u x) (hx : evalV σ x = .ps len n) (ht : StrBytes P t u = true) (hd : dstOK o σ)
    (h : N (σ.put o.dst (.ro 1 (byteRows len n)))) : QO ρ P C o σ N K := by
  unfold StrBytes at ht
  split at ht
  · rename_i e h1 h2
    split at ht
    · rename_i h3
      intro X T a w hh
      obtain ⟨e1, hn⟩ := rep_ps (ev_rep hh hx)
      have hrun := run_bytes_of_string (P := P) w t u e (unpack len n) h1 h2 h3
      have hex : (execOp a.eval o).run P w = .ok (.value (.slice (some ⟨w.heap.size, 0, none⟩) (unpack len n).size (grownCap w (unpack len n).size 0 e))) (more w.drew (.cells (bytesRow (unpack len n) (grownCap w (unpack len n).size 0 e)) e ((bytesRow (unpack len n) (grownCap w (unpack len n).size 0 e)).size, (bytesRow (unpack len n) (grownCap w (unpack len n).size 0 e)).size + 1))) := by
        simp only [execOp, ho, e1, Sem.run_bind, hrun, Result.andThen, Sem.run_pure]
        rfl
      generalize hcap : grownCap w (unpack len n).size 0 e = cap at hex
      have hge : len ≤ cap := by
        have := grown_ge w (unpack len n).size 0 e
        rw [unpack_size] at this
        rw [← hcap, unpack_size]
        exact this
      generalize hC : bytesRow (unpack len n) cap = Cs at hex
      have hcell : ∀ i, i < len → Cs[i]? = some (.int .u8 (((n / 256 ^ i % 256 : Nat)) : Int)) := by
        intro i hi
        rw [← hC]
        unfold bytesRow
        have hs : (unpack len n).data.size = len := unpack_size len n
        rw [Array.getElem?_append_left (by simp [hs, hi])]
        rw [Array.getElem?_map]
        have : (unpack len n).data[i]? = some (UInt8.ofNat (n / 256 ^ i % 256)) := by
          show (bytesL len n).toArray[i]? = _
          rw [List.getElem?_toArray]
          exact bytesL_get len n i hi
        rw [this]
        simp
      unfold Oper.wp
      rw [hex]
      have hh1 := (hh.congr (w' := w.drew) rfl rfl rfl rfl).aside (.cells Cs e (Cs.size, Cs.size + 1))
      refine ⟨T, _, h, hh1.put ?_ hd, ?_⟩
      · rw [unpack_size]
        have hroom : (more w.drew (.cells Cs e (Cs.size, Cs.size + 1))).heap[w.heap.size]? = some (.cells Cs e (Cs.size, Cs.size + 1)) := more_new w.drew _
        have cellAt : ∀ i, i < len → (more w.drew (.cells Cs e (Cs.size, Cs.size + 1))).cell? ⟨w.heap.size, i, none⟩ = some (.int .u8 (((n / 256 ^ i % 256 : Nat)) : Int)) := by
          intro i hi
          unfold World.cell?
          simp only [hroom]
          exact hcell i hi
        have := RepP.ro (ρ := ρ) (w := more w.drew (.cells Cs e (Cs.size, Cs.size + 1))) (L := Live X.A T σ.objs) 1 (byteRows len n) w.heap.size 0 cap (fun r _ => .int .u8 (((n / 256 ^ r % 256 : Nat)) : Int))
          (fun hl => by
            rcases hl with g | ⟨k, ob, p, g1, g2, g3⟩
            · exact Nat.lt_irrefl _ (hh.mem.avoid _ g)
            · have := hh.mem.low k p g2; omega)
          (by rw [more_size]; show w.heap.size < w.heap.size + 1; omega) (by rw [byteRows_length]; exact hge)
          (fun row hrow => by
            obtain ⟨i, _, rfl⟩ := List.mem_map.mp hrow
            exact ⟨rfl, fun q hq => by simp at hq; subst hq; rfl⟩)
          (fun r row hr c q hq => by
            have hlt := lt_of_get hr
            rw [byteRows_length] at hlt
            rw [byteRows_get hlt] at hr
            cases hr
            have hc0 : c = 0 := by have := lt_of_get hq; simp at this; omega
            subst hc0
            simpa using cellAt r hlt)
          (fun r row hr c q hq => by
            have hlt := lt_of_get hr
            rw [byteRows_length] at hlt
            rw [byteRows_get hlt] at hr
            cases hr
            have hc0 : c = 0 := by have := lt_of_get hq; simp at this; omega
            subst hc0
            simp at hq
            subst hq
            exact .int _ _)
        rw [byteRows_length] at this
        exact .pure this
      · rw [put_objs]
        exact StepT.aside (w := w) (w1 := w.drew) rfl _ hh.mem.low
    · cases ht
  · cases ht

end Go.Proofs.YtjljgldgkkfckaaDoor.M
