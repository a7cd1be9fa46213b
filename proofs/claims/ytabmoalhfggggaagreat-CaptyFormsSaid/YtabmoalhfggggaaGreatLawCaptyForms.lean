/- What CaptyForms claims: whatever it is given it returns true, and what it was given reads as before. -/
import Derived.Test.YtabmoalhfggggaaGreatRows
import Derived.Test.YtabmoalhfggggaaGreatMWithin
import Derived.Test.YtabmoalhfggggaaGreatMOk
import Derived.Test.YtabmoalhfggggaaGreatMRun0
import Derived.Test.YtabmoalhfggggaaGreatMRun1
import Derived.Test.YtabmoalhfggggaaGreatMRun2
import Derived.Test.YtabmoalhfggggaaGreatMRun3
import Derived.WalkKit
import Derived.ProofKit
import Derived.OpenShut
import Derived.ChangeOld
import Derived.Below
import Derived.SizedLaws
namespace Go.Proofs.YtabmoalhfggggaaGreat.captyForms
open Go Go.ChangeShapes Go.WideShapes Go.ChangeAt Go.RowKit Go.Proofs.YtabmoalhfggggaaGreat.M
set_option linter.unusedVariables false
set_option linter.unusedSimpArgs false

theorem runs : ∀ k, k < 23 → isOk (runO Tryz.prog glob 13 23 k 60 5 [.sym 0] [] hp0 0 sayTrue sayNo) = true
  | 0, _ => run0
  | 1, _ => run1
  | 2, _ => run2
  | 3, _ => run3
  | 4, _ => run4
  | 5, _ => run5
  | 6, _ => run6
  | 7, _ => run7
  | 8, _ => run8
  | 9, _ => run9
  | 10, _ => run10
  | 11, _ => run11
  | 12, _ => run12
  | 13, _ => run13
  | 14, _ => run14
  | 15, _ => run15
  | 16, _ => run16
  | 17, _ => run17
  | 18, _ => run18
  | 19, _ => run19
  | 20, _ => run20
  | 21, _ => run21
  | 22, _ => run22
  | k + 23, h => by omega

set_option maxRecDepth 100000 in
theorem int_arg {W : World} {r : Reach} {base : Nat} {v : Value} (h : Value.okWide Tryz.prog W r base 3 v) : ∃ n : Int, v = .int .i64 n :=
  okWide_int Tryz.underlying3 h

set_option maxRecDepth 100000 in
theorem forms_true (v : Value) (n : Int) (hv : v = .int .i64 n) (w : World) : Calls Tryz.prog 5 #[v] w fun e w' => e = .returned (.bool true) ∧ Below w.heap.size w w' := by
  obtain ⟨k, hk, ht⟩ := within_told (n := n) (b := 23) (by omega) (by omega)
  exact calls_true fun ρ hρ => runO_true (by kernel_rfl) glob_ok (ht ρ (hρ.trans hv)) (runs k hk)

theorem own : ownKnob Tryz.prog.godebug = none := by kernel_rfl
set_option maxRecDepth 100000 in
theorem lifted (os : Os) (started : os.Started) (H : Type) (enc : TypeId × Value → H) :
    ReturnsInHanded {} Tryz.checked os 5 .any (Rows.captyFormsSpec.pre6 enc Tryz.prog Tryz.f5 Rows.captyFormsRow.domain false) (Rows.captyFormsSpec.post enc Tryz.prog Tryz.f5 false true false false) := by
  refine returnsInHanded_of_change_sized (C := Tryz.checked) own started (by kernel_rfl) Tryz.func5
    (ChangeSpec.witness6 (enc := enc) (C := Tryz.checked) false ⟨#[], #[.int .i64 0], []⟩ 8 (by kernel_rfl) (by kernel_rfl) (by kernel_rfl) (by kernel_rfl)) ?_
  intro W base args ds gs before hval0 hW hcnd hsz0 _
  have hval : ∀ (j : Nat) t v, Tryz.f5.params[j]? = some t → args[j]? = some v → Value.okWide Tryz.prog W .any base t v := hval0
  have hW' := hW
  obtain ⟨p, q, hA0, hV, rfl, hfz, hnd⟩ := hW
  have hA : DataW.TrodAll enc Tryz.prog W 0 (fun _ => true) true Tryz.f5.params.toList args.toList ds p := hA0
  have hA1 := hA
  rw [Tryz.params5] at hA hval
  obtain ⟨v0, vs0, d0, ds0, p0, q0, hargs, rfl, rfl, h0, r0⟩ := trodAll_cons hA
  obtain ⟨rfl, rfl, rfl⟩ := trodAll_nil r0
  obtain rfl : args = #[v0] := by cases args; simp_all
  obtain ⟨rfl, rfl⟩ := trodVars_none hV
  obtain ⟨n, hn⟩ := int_arg (hval 0 3 v0 rfl rfl)
  refine (forms_true v0 n hn W).mono fun e W' ⟨he, bel⟩ => ?_
  subst he
  exact ⟨_, rfl, _, _, _, [], _, [], hW', trodAll_mk1 (shut_bool Tryz.underlying4 _), args_again (by kernel_rfl) (by kernel_rfl) (by kernel_rfl) (by kernel_rfl) hA1 bel, rfl, bel.frame _, fun h => by cases h⟩
theorem over : Rows.captyFormsRow.holds Tryz.pinned (OpenSpec.ofChange Rows.captyFormsSpec) :=
  OpenClaim.holds_of_wide 5 Tryz.f5 rfl rfl rfl rfl rfl rfl rfl ⟨rfl, rfl, rfl, rfl, rfl⟩ rfl rfl rfl rfl rfl (by kernel_rfl) Tryz.func5 (by kernel_rfl)
    (of_decide_eq_true (by kernel_rfl)) (by unfold Func.isWrapper; first | (rw [if_pos (by decide +kernel)]; kernel_rfl) | (rw [if_neg (by decide +kernel)]; exact ⟨rfl, rfl⟩))
    (fun os started H enc _ => lifted os started H enc)
theorem proved : Rows.CaptyFormsSaid := over
end Go.Proofs.YtabmoalhfggggaaGreat.captyForms
namespace Go.Proofs.YtabmoalhfggggaaGreat
/-- The row, under a short name, for the claim. -/
theorem captyForms_holds : Rows.CaptyFormsSaid := captyForms.proved
end Go.Proofs.YtabmoalhfggggaaGreat
