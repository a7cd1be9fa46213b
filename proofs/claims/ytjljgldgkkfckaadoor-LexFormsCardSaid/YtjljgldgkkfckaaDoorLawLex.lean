/- What the Lex laws share: their arguments, the door's heap. -/
import Derived.Test.YtjljgldgkkfckaaDoorRows
import Derived.Test.YtjljgldgkkfckaaDoorMLex11
import Derived.WalkKit
import Derived.ProofKit
import Derived.OpenShut
import Derived.ChangeOld
import Derived.ChangeSlices
import Derived.Below
import Derived.SizedLaws
import Derived.LaidMore
import Derived.Stop.Joined
namespace Go.Proofs.YtjljgldgkkfckaaDoor.lexes
open Go Go.ChangeShapes Go.WideShapes Go.ChangeAt Go.RowKit Go.Proofs.YtjljgldgkkfckaaDoor.M
set_option linter.unusedVariables false
set_option linter.unusedSimpArgs false

theorem ints_arg {P : Program} {H : Type} {enc : TypeId × Value → H} {W : World} {t e : TypeId} {v : Value} {d : DataW H} {ps : List MemPlace} {base : Nat} (ht : P.underlying t = some (.slice e)) (he : P.underlying e = some (.int .i64)) (hc : P.cellsOf e = 1)
    (hval : Value.okWide P W .any base t v) (h : DataW.Trod enc P W 0 (fun _ => true) true t v d ps) (hw : ∀ l r, d = .slice l r → (l.length + r.length) * 8 ≤ reachBytes) :
    ∃ picks : List Int, picks.length ≤ 140737488355328 ∧ ∀ ρ : Nat → Value, RepP ρ W (fun _ => False) (.ro 1 (picks.map pickRow)) v := by
  obtain ⟨a0, len0, cap0, rfl⟩ := okWide_slice ht hval
  obtain ⟨fuel, hf⟩ := h
  rcases open_ints ht he hc hf with ⟨h1, h2⟩ | ⟨a, len, cap, zs, h1, h2, h3, h4, h5, h6, h7, h8⟩
  · simp only [Value.cells, List.cons.injEq, Value.slice.injEq, and_true] at h1
    obtain ⟨rfl, rfl, rfl⟩ := h1
    exact ⟨[], by simp, fun ρ => .nil 1⟩
  · simp only [Value.cells, List.cons.injEq, Value.slice.injEq, and_true] at h1
    obtain ⟨rfl, rfl, rfl⟩ := h1
    simp only [if_true] at h5
    have hok : World.has P W .any base a e cap0 := by
      have := hval
      unfold Value.okWide at this
      rw [ht] at this
      simp only at this
      unfold Cell.okWide at this
      rw [ht] at this
      simp only at this
      unfold Cell.ok at this
      rw [ht] at this
      simp only at this
      exact this.2.2
    obtain ⟨_, hsp, row, cells, hsh, _⟩ := hok
    have hb : a.block < W.heap.size := by
      unfold World.shape? at hsh
      cases hh : W.heap[a.block]? with
      | none => rw [hh] at hsh; cases hsh
      | some x => exact (Array.getElem?_eq_some_iff.mp hh).1
    have hlz : (zs.take len0).length = len0 := by rw [List.length_take]; omega
    refine ⟨zs.take len0, ?_, fun ρ => ?_⟩
    · have hd := congrArg Prod.fst h6
      have := hw _ _ hd
      have e1 : (lits IntKind.i64 (zs.take len0) : List (DataW H)).length = len0 := by simp [lits]; omega
      have := reachBytes_lt
      omega
    · have key := RepP.ro (ρ := ρ) (w := W) (L := fun _ => False) 1 ((zs.take len0).map pickRow) a.block a.off cap0 (fun r _ => .int .i64 (zs.getD r 0)) (fun h => h) hb (by rw [List.length_map]; omega)
        (fun row hrow => by
          obtain ⟨z, _, rfl⟩ := List.mem_map.mp hrow
          exact ⟨rfl, fun q hq => by simp [pickRow] at hq; subst hq; rfl⟩)
        (fun r row hr c q hq => by
          rw [List.getElem?_map] at hr
          obtain ⟨z, hz, rfl⟩ := Option.map_eq_some_iff.mp hr
          have hc0 : c = 0 := by
            cases c with
            | zero => rfl
            | succ c => simp [pickRow] at hq
          subst hc0
          have hlt : r < (zs.take len0).length := (List.getElem?_eq_some_iff.mp hz).1
          have := h7 r (by omega)
          rw [show a.add r = ⟨a.block, a.off + (r * 1 + 0), none⟩ by
            obtain ⟨b, o, sp⟩ := a
            simp only at hsp
            subst hsp
            simp [Addr.add]] at this
          exact this)
        (fun r row hr c q hq => by
          rw [List.getElem?_map] at hr
          obtain ⟨z, hz, rfl⟩ := Option.map_eq_some_iff.mp hr
          cases c with
          | zero =>
            simp [pickRow] at hq
            subst hq
            have hlt : r < (zs.take len0).length := (List.getElem?_eq_some_iff.mp hz).1
            have e : zs.getD r 0 = z := by
              rw [List.getElem?_take_of_lt (by omega)] at hz
              rw [List.getD_eq_getElem?_getD, hz]
              rfl
            rw [e]
            exact .int _ _
          | succ c => simp [pickRow] at hq)
      rw [List.length_map, hlz] at key
      have ea : a = ⟨a.block, a.off, none⟩ := by
        obtain ⟨b, o, sp⟩ := a
        simp only at hsp
        subst hsp
        rfl
      rw [ea]
      exact key

theorem str_arg {P : Program} {H : Type} {enc : TypeId × Value → H} {W : World} {t : TypeId} {v : Value} {d : DataW H} {ps : List MemPlace} {base : Nat} (ht : P.underlying t = some .string)
    (hval : Value.okWide P W .any base t v) (h : DataW.Trod enc P W 0 (fun _ => true) true t v d ps) : ∃ s : ByteArray, v = .string s ∧ d = .lit (.string s.data.toList) ∧ ps = [] := by
  obtain ⟨s, rfl⟩ := okWide_string ht hval
  obtain ⟨fuel, hf⟩ := h
  obtain ⟨s', h, hx, hs⟩ := DataW.trod_string ht hf
  simp [Value.cells] at h
  subst h
  simp only [Prod.mk.injEq] at hx
  exact ⟨s, rfl, hx.1, hx.2⟩

theorem text_arg (ρ : Nat → Value) (W : World) (s : ByteArray) : RepP ρ W (fun _ => False) (.ps s.size (packL s.data.toList)) (.string s) := repP_cv W _ (.string s)

theorem globs_none (W : World) : Globs W fun _ => False := fun g vs hg => by cases hg

/-- A law of a text and numbers that says true says so whatever it is handed. -/
theorem says_calls {f : FuncId} {W : World} {s : ByteArray} {v : Value} {picks : List Int} (hr : ∀ ρ : Nat → Value, RepP ρ W (fun _ => False) (.ro 1 (picks.map pickRow)) v)
    (h : ∀ ρ : Nat → Value, Says ρ Tryd.prog f [.ps s.size (packL s.data.toList), .ro 1 (picks.map pickRow)] (.bool true)) : Calls Tryd.prog f #[.string s, v] W fun e w' => e = .returned (.bool true) ∧ Below W.heap.size W w' := by
  refine calls_ret (ρ := fun _ => undef) (globs_none W) rfl (fun i q hq => ?_) ((h _ (fun _ => none) 0 (fun _ _ _ => False)).mono fun o O m h => h.1)
  match i with
  | 0 => simp at hq; subst hq; exact text_arg _ W s
  | 1 => simp at hq; subst hq; exact hr _
  | i + 2 => simp at hq

theorem own : ownKnob Tryd.prog.godebug = none := by kernel_rfl

end Go.Proofs.YtjljgldgkkfckaaDoor.lexes
