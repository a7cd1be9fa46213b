/- What CapsMoved claims: whatever it is given it returns true, and what it was given reads as before. -/
import Derived.Test.YtohchoelhnipmaaRows
import Derived.Test.YtohchoelhnipmaaQMoved
import Derived.Test.YtohchoelhnipmaaQLaw
import Derived.WalkKit
import Derived.ProofKit
import Derived.OpenShut
import Derived.ShutString
import Derived.ChangeOld
import Derived.Below
import Derived.SizedLaws
namespace Go.Proofs.Ytohchoelhnipmaa.Q
open Go Go.RowKit Go.WideShapes
set_option linter.unusedVariables false
set_option linter.unusedSimpArgs false

theorem cell_int {P : Program} {w : World} {r : Reach} {b : Nat} {u : TypeId} {v : Value} {k : IntKind} (hu : P.underlying u = some (.int k)) (h : Cell.okWide P w r b u v) : ∃ n, v = .int k n := by
  refine okWide_int hu (w := w) (r := r) (base := b) ?_
  unfold Value.okWide
  rw [hu]
  exact h

theorem cell_string {P : Program} {w : World} {r : Reach} {b : Nat} {u : TypeId} {v : Value} (hu : P.underlying u = some .string) (h : Cell.okWide P w r b u v) : ∃ s, v = .string s := by
  refine okWide_string hu (w := w) (r := r) (base := b) ?_
  unfold Value.okWide
  rw [hu]
  exact h

theorem cell_slice {P : Program} {w : World} {r : Reach} {b : Nat} {u e : TypeId} {v : Value} (hu : P.underlying u = some (.slice e)) (h : Cell.okWide P w r b u v) : ∃ a len cap, v = .slice a len cap := by
  refine okWide_slice hu (w := w) (r := r) (base := b) ?_
  unfold Value.okWide
  rw [hu]
  exact h

theorem ty_of {W : World} {r : Reach} {base : Nat} {v : Value} (h : Value.okWide Try.prog W r base 31 v) (L : Nat → Prop) : ∃ t : Ty, Rep W L [] t.v v := by
  obtain ⟨F, hu, _⟩ := struct_of ty31 rfl
  unfold Value.okWide at h
  rw [hu] at h
  obtain ⟨cs, rfl, hsz, ts, hts, _, hc⟩ := h
  have hts' : Try.prog.cellTypes Try.prog.depth 31 = some [3, 3, 3, 9, 29] := by kernel_rfl
  have h5 : Try.prog.cellsOf 31 = 5 := by kernel_rfl
  rw [hts'] at hts
  cases hts
  rw [h5] at hsz
  have at_ : ∀ (i : Nat) (u : TypeId), [3, 3, 3, 9, 29][i]? = some u → i < 5 → Cell.okWide Try.prog W r base u (cs.getD i undef) := by
    intro i u hi hlt
    obtain ⟨u', h1, h2⟩ := hc i (cs.getD i undef) (by rw [Array.getD_eq_getD_getElem?]; rw [Array.getElem?_eq_getElem (by omega)]; rfl)
    have : i % [3, 3, 3, 9, 29].length = i := Nat.mod_eq_of_lt hlt
    rw [this, hi] at h1
    cases h1
    exact h2
  have i3 := int_of ty3 rfl
  obtain ⟨a, ha⟩ := cell_int i3 (at_ 0 3 rfl (by decide))
  obtain ⟨b, hb⟩ := cell_int i3 (at_ 1 3 rfl (by decide))
  obtain ⟨c, hc'⟩ := cell_int i3 (at_ 2 3 rfl (by decide))
  obtain ⟨s, hs⟩ := cell_string (string_of ty9 rfl) (at_ 3 9 rfl (by decide))
  obtain ⟨p, l, k, hp⟩ := cell_slice (slice_of ty29 rfl).1 (at_ 4 29 rfl (by decide))
  refine ⟨⟨a, b, c, s, p, l, k⟩, .agg _ cs (by simpa using hsz) ?_⟩
  intro i q hq
  match i with
  | 0 => simp at hq; subst hq; rw [ha]; exact .pure (.sc _)
  | 1 => simp at hq; subst hq; rw [hb]; exact .pure (.sc _)
  | 2 => simp at hq; subst hq; rw [hc']; exact .pure (.sc _)
  | 3 => simp at hq; subst hq; rw [hs]; exact .pure (.sc _)
  | 4 => simp at hq; subst hq; rw [hp]; exact .pure (.sc _)
  | i + 5 => simp at hq

theorem int_ofW {W : World} {r : Reach} {base : Nat} {v : Value} (h : Value.okWide Try.prog W r base 3 v) (L : Nat → Prop) : ∃ n : Int, Rep W L [] (.sc (.int .i64 n)) v := by
  obtain ⟨n, rfl⟩ := okWide_int (int_of ty3 rfl) h
  exact ⟨n, .pure (.sc _)⟩

end Go.Proofs.Ytohchoelhnipmaa.Q

namespace Go.Proofs.Ytohchoelhnipmaa.capsMoved
open Go.ChangeShapes Go.WideShapes Go.ChangeAt Go.RowKit Go.Proofs.Ytohchoelhnipmaa.Q
set_option linter.unusedVariables false
theorem own : ownKnob Try.prog.godebug = none := by kernel_rfl
def zeroTy : Value := .agg #[.int .i64 0, .int .i64 0, .int .i64 0, .string ⟨#[]⟩, .slice none 0 0]
set_option maxRecDepth 100000 in
theorem lifted (os : Os) (started : os.Started) (H : Type) (enc : TypeId × Value → H) :
    ReturnsInHanded {} Try.checked os 4 .any (Rows.capsMovedSpec.pre6 enc Try.prog Try.f4 Rows.capsMovedRow.domain false) (Rows.capsMovedSpec.post enc Try.prog Try.f4 false true false false) := by
  refine returnsInHanded_of_change_sized (C := Try.checked) own started (by kernel_rfl) Try.func4
    (ChangeSpec.witness6 (enc := enc) (C := Try.checked) false ⟨#[], #[zeroTy, zeroTy, .int .i64 0, .int .i64 0], []⟩ 8 (by kernel_rfl) (by kernel_rfl) (by kernel_rfl) (by kernel_rfl)) ?_
  intro W base args ds gs before hval0 hW hcnd hsz0 _
  have hval : ∀ (j : Nat) t v, Try.f4.params[j]? = some t → args[j]? = some v → Value.okWide Try.prog W .any base t v := hval0
  have hW' := hW
  obtain ⟨p, q, hA0, hV, rfl, hfz, hnd⟩ := hW
  have hA : DataW.TrodAll enc Try.prog W 0 (fun _ => true) true Try.f4.params.toList args.toList ds p := hA0
  have hA1 := hA
  rw [Try.params4] at hA hval
  obtain ⟨v0, vs0, d0, ds0, p0, q0, hargs, rfl, rfl, h0, r0⟩ := trodAll_cons hA
  obtain ⟨v1, vs1, d1, ds1, p1, q1, rfl, rfl, rfl, h1, r1⟩ := trodAll_cons r0
  obtain ⟨v2, vs2, d2, ds2, p2, q2, rfl, rfl, rfl, h2, r2⟩ := trodAll_cons r1
  obtain ⟨v3, vs3, d3, ds3, p3, q3, rfl, rfl, rfl, h3, r3⟩ := trodAll_cons r2
  obtain ⟨rfl, rfl, rfl⟩ := trodAll_nil r3
  obtain rfl : args = #[v0, v1, v2, v3] := by cases args; simp_all
  obtain ⟨rfl, rfl⟩ := trodVars_none hV
  obtain ⟨a, ha⟩ := ty_of (hval 0 31 v0 rfl rfl) (fun _ => False)
  obtain ⟨b, hb⟩ := ty_of (hval 1 31 v1 rfl rfl) (fun _ => False)
  obtain ⟨m, hm⟩ := int_ofW (hval 2 3 v2 rfl rfl) (fun _ => False)
  obtain ⟨n, hn⟩ := int_ofW (hval 3 3 v3 rfl rfl) (fun _ => False)
  refine (calls_pure (moved_ok a b m n) (vals := #[v0, v1, v2, v3]) (w := W) rfl ?_).mono fun e W' ⟨he, bel⟩ => ?_
  · intro i q hq
    match i with
    | 0 => simp at hq; subst hq; exact ha
    | 1 => simp at hq; subst hq; exact hb
    | 2 => simp at hq; subst hq; exact hm
    | 3 => simp at hq; subst hq; exact hn
    | i + 4 => simp at hq
  subst he
  exact ⟨_, rfl, _, _, _, [], _, [], hW', trodAll_mk1 (shut_bool Try.underlying4 _), args_again (by kernel_rfl) (by kernel_rfl) (by kernel_rfl) (by kernel_rfl) hA1 bel, rfl, bel.frame _, fun h => by cases h⟩
theorem over : Rows.capsMovedRow.holds Try.pinned (OpenSpec.ofChange Rows.capsMovedSpec) :=
  OpenClaim.holds_of_wide 4 Try.f4 rfl rfl rfl rfl rfl rfl rfl ⟨rfl, rfl, rfl, rfl, rfl⟩ rfl rfl rfl rfl rfl (by kernel_rfl) Try.func4 (by kernel_rfl)
    (of_decide_eq_true (by kernel_rfl)) (by unfold Func.isWrapper; first | (rw [if_pos (by decide +kernel)]; kernel_rfl) | (rw [if_neg (by decide +kernel)]; exact ⟨rfl, rfl⟩))
    (fun os started H enc _ => lifted os started H enc)
theorem proved : Rows.CapsMovedSaid := over
end Go.Proofs.Ytohchoelhnipmaa.capsMoved
namespace Go.Proofs.Ytohchoelhnipmaa
/-- The row, under a short name, for the claim. -/
theorem capsMoved_holds : Rows.CapsMovedSaid := capsMoved.proved
end Go.Proofs.Ytohchoelhnipmaa
