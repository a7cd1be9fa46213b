/- What CapsTells claims: whatever it is given it returns true, and what it was given reads as before. -/
import Derived.Test.YtmjmadcecbihbaaRows
import Derived.Test.YtmjmadcecbihbaaX3CapsTells
import Derived.WalkKit
import Derived.ProofKit
import Derived.OpenShut
import Derived.ShutString
import Derived.ChangeOld
import Derived.Below
import Derived.SizedLaws
namespace Go.Proofs.Ytmjmadcecbihbaa.capsTells
open Go Go.ChangeShapes Go.WideShapes Go.ChangeAt Go.RowKit Go.Proofs.Ytmjmadcecbihbaa.M
set_option linter.unusedVariables false
set_option linter.unusedSimpArgs false

set_option maxRecDepth 100000
theorem cell_int {P : Program} {w : World} {r : Reach} {b : Nat} {u : TypeId} {v : Value} {k : IntKind} (hu : P.underlying u = some (.int k)) (h : Cell.okWide P w r b u v) : ∃ n, v = .int k n := by
  refine okWide_int hu (w := w) (r := r) (base := b) ?_
  unfold Value.okWide
  rw [hu]
  exact h

theorem cell_string {P : Program} {w : World} {r : Reach} {b : Nat} {u : TypeId} {v : Value} (hu : P.underlying u = some .string) (h : Cell.okWide P w r b u v) : ∃ s, v = .string s := by
  refine okWide_string hu (w := w) (r := r) (base := b) ?_
  unfold Value.okWide
  rw [hu]
  exact h

theorem cell_slice {P : Program} {w : World} {r : Reach} {b : Nat} {u e : TypeId} {v : Value} (hu : P.underlying u = some (.slice e)) (h : Cell.okWide P w r b u v) : ∃ a len cap, v = .slice a len cap := by
  refine okWide_slice hu (w := w) (r := r) (base := b) ?_
  unfold Value.okWide
  rw [hu]
  exact h

theorem ty_of {W : World} {r : Reach} {base : Nat} {v : Value} (h : Value.okWide Try.prog W r base 25 v) (ρ : Nat → Value) : ∃ a b c l n p s t, Rep ρ W (fun _ => False) (fun _ => none) (tyV a b c l n p s t) v := by
  obtain ⟨F, hu⟩ : ∃ F, Try.prog.underlying 25 = some (.struct F) := ⟨_, Try.underlying25⟩
  unfold Value.okWide at h
  rw [hu] at h
  obtain ⟨cs, rfl, hsz, ts, hts, _, hc⟩ := h
  have hts' : Try.prog.cellTypes Try.prog.depth 25 = some [3, 3, 3, 9, 23] := by kernel_rfl
  have h5 : Try.prog.cellsOf 25 = 5 := by kernel_rfl
  rw [hts'] at hts
  cases hts
  rw [h5] at hsz
  have at_ : ∀ (i : Nat) (u : TypeId), [3, 3, 3, 9, 23][i]? = some u → i < 5 → Cell.okWide Try.prog W r base u (cs.getD i undef) := by
    intro i u hi hlt
    obtain ⟨u', h1, h2⟩ := hc i (cs.getD i undef) (by rw [Array.getD_eq_getD_getElem?]; rw [Array.getElem?_eq_getElem (by omega)]; rfl)
    have : i % [3, 3, 3, 9, 23].length = i := Nat.mod_eq_of_lt hlt
    rw [this, hi] at h1
    cases h1
    exact h2
  have i3 : Try.prog.underlying 3 = some (.int .i64) := Try.underlying3
  obtain ⟨a, ha⟩ := cell_int i3 (at_ 0 3 rfl (by decide))
  obtain ⟨b, hb⟩ := cell_int i3 (at_ 1 3 rfl (by decide))
  obtain ⟨c, hc'⟩ := cell_int i3 (at_ 2 3 rfl (by decide))
  obtain ⟨s, hs⟩ := cell_string (Try.underlying9 : Try.prog.underlying 9 = some .string) (at_ 3 9 rfl (by decide))
  obtain ⟨p, l, k, hp⟩ := cell_slice (Try.underlying23 : Try.prog.underlying 23 = some (.slice 55)) (at_ 4 23 rfl (by decide))
  refine ⟨a, b, c, s.size, packL s.data.toList, p, l, k, .agg _ cs (by simpa using hsz) ?_⟩
  intro i q hq
  match i with
  | 0 => simp at hq; subst hq; rw [ha]; exact .pure (.int _ _)
  | 1 => simp at hq; subst hq; rw [hb]; exact .pure (.int _ _)
  | 2 => simp at hq; subst hq; rw [hc']; exact .pure (.int _ _)
  | 3 => simp at hq; subst hq; rw [hs]; exact .pure (repP_cv W _ (.string s))
  | 4 => simp at hq; subst hq; rw [hp]; exact .pure (.sc _)
  | i + 5 => simp at hq

theorem own : ownKnob Try.prog.godebug = none := by kernel_rfl
def zeroTy : Value := .agg #[.int .i64 0, .int .i64 0, .int .i64 0, .string ⟨#[]⟩, .slice none 0 0]
set_option maxRecDepth 100000 in
theorem lifted (os : Os) (started : os.Started) (H : Type) (enc : TypeId × Value → H) :
    ReturnsInHanded {} Try.checked os 3 .any (Rows.capsTellsSpec.pre6 enc Try.prog Try.f3 Rows.capsTellsRow.domain false) (Rows.capsTellsSpec.post enc Try.prog Try.f3 false true false false) := by
  refine returnsInHanded_of_change_sized (C := Try.checked) own started (by kernel_rfl) Try.func3
    (ChangeSpec.witness6 (enc := enc) (C := Try.checked) false ⟨#[], #[zeroTy, zeroTy, .int .i64 0, .int .i64 0, .int .i64 0, .int .i64 0, .bool false], []⟩ 8 (by kernel_rfl) (by kernel_rfl) (by kernel_rfl) (by kernel_rfl)) ?_
  intro W base args ds gs before hval0 hW hcnd hsz0 _
  have hval : ∀ (j : Nat) t v, Try.f3.params[j]? = some t → args[j]? = some v → Value.okWide Try.prog W .any base t v := hval0
  have hW' := hW
  obtain ⟨p, q, hA0, hV, rfl, hfz, hnd⟩ := hW
  have hA : DataW.TrodAll enc Try.prog W 0 (fun _ => true) true Try.f3.params.toList args.toList ds p := hA0
  have hA1 := hA
  rw [Try.params3] at hA hval
  obtain ⟨v0, vs0, d0, ds0, p0, q0, hargs, rfl, rfl, h0, r0⟩ := trodAll_cons hA
  obtain ⟨v1, vs1, d1, ds1, p1, q1, rfl, rfl, rfl, h1, r1⟩ := trodAll_cons r0
  obtain ⟨v2, vs2, d2, ds2, p2, q2, rfl, rfl, rfl, h2, r2⟩ := trodAll_cons r1
  obtain ⟨v3, vs3, d3, ds3, p3, q3, rfl, rfl, rfl, h3, r3⟩ := trodAll_cons r2
  obtain ⟨v4, vs4, d4, ds4, p4, q4, rfl, rfl, rfl, h4, r4⟩ := trodAll_cons r3
  obtain ⟨v5, vs5, d5, ds5, p5, q5, rfl, rfl, rfl, h5, r5⟩ := trodAll_cons r4
  obtain ⟨v6, vs6, d6, ds6, p6, q6, rfl, rfl, rfl, h6, r6⟩ := trodAll_cons r5
  obtain ⟨rfl, rfl, rfl⟩ := trodAll_nil r6
  obtain rfl : args = #[v0, v1, v2, v3, v4, v5, v6] := by cases args; simp_all
  obtain ⟨rfl, rfl⟩ := trodVars_none hV
  obtain ⟨a, b, c, l, k, p, s, t, ha⟩ := ty_of (hval 0 25 v0 rfl rfl) (fun _ => undef)
  obtain ⟨a', b', c', l', k', p', s', t', hb⟩ := ty_of (hval 1 25 v1 rfl rfl) (fun _ => undef)
  obtain ⟨m, rfl⟩ := okWide_int Try.underlying3 (hval 2 3 v2 rfl rfl)
  obtain ⟨n, rfl⟩ := okWide_int Try.underlying3 (hval 3 3 v3 rfl rfl)
  obtain ⟨x, rfl⟩ := okWide_int Try.underlying3 (hval 4 3 v4 rfl rfl)
  obtain ⟨y, rfl⟩ := okWide_int Try.underlying3 (hval 5 3 v5 rfl rfl)
  obtain ⟨mv, rfl⟩ := okWide_bool Try.underlying4 (hval 6 4 v6 rfl rfl)
  refine (calls_retR (ρ := fun _ => undef) (fun g vs hg => by cases hg) (vals := #[v0, v1, .int .i64 m, .int .i64 n, .int .i64 x, .int .i64 y, .bool mv]) (w := W) rfl ?_ ((capsTells_says a b c a' b' c' m n x y mv l k l' k' p p' s t s' t' (fun _ => none) 0 (fun _ _ _ => False)).mono fun o O m h => h.1)).mono fun e W' ⟨he, bel⟩ => ?_
  · intro i q hq
    match i with
    | 0 => simp at hq; subst hq; exact ha
    | 1 => simp at hq; subst hq; exact hb
    | 2 => simp at hq; subst hq; exact .pure (.int _ _)
    | 3 => simp at hq; subst hq; exact .pure (.int _ _)
    | 4 => simp at hq; subst hq; exact .pure (.int _ _)
    | 5 => simp at hq; subst hq; exact .pure (.int _ _)
    | 6 => simp at hq; subst hq; exact .pure (.bool _)
    | i + 7 => simp at hq
  subst he
  exact ⟨_, rfl, _, _, _, [], _, [], hW', trodAll_mk1 (shut_bool Try.underlying4 _), args_again (by kernel_rfl) (by kernel_rfl) (by kernel_rfl) (by kernel_rfl) hA1 bel, rfl, bel.frame _, fun h => by cases h⟩
theorem over : Rows.capsTellsRow.holds Try.pinned (OpenSpec.ofChange Rows.capsTellsSpec) :=
  OpenClaim.holds_of_wide 3 Try.f3 rfl rfl rfl rfl rfl rfl rfl ⟨rfl, rfl, rfl, rfl, rfl⟩ rfl rfl rfl rfl rfl (by kernel_rfl) Try.func3 (by kernel_rfl)
    (of_decide_eq_true (by kernel_rfl)) (by unfold Func.isWrapper; first | (rw [if_pos (by decide +kernel)]; kernel_rfl) | (rw [if_neg (by decide +kernel)]; exact ⟨rfl, rfl⟩))
    (fun os started H enc _ => lifted os started H enc)
theorem proved : Rows.CapsTellsSaid := over
end Go.Proofs.Ytmjmadcecbihbaa.capsTells
namespace Go.Proofs.Ytmjmadcecbihbaa
/-- The row, under a short name, for the claim. -/
theorem capsTells_holds : Rows.CapsTellsSaid := capsTells.proved
end Go.Proofs.Ytmjmadcecbihbaa
