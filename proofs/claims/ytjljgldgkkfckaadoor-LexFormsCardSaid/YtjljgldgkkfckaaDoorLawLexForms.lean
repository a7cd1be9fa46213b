/- LexForms: the row and its card. -/
import Derived.Test.YtjljgldgkkfckaaDoorCards
import Derived.Test.YtjljgldgkkfckaaDoorTie
import Derived.Test.YtjljgldgkkfckaaDoorLawLex
import Derived.Test.YtjljgldgkkfckaaDoorMLexF
namespace Go.Proofs.YtjljgldgkkfckaaDoor.lexForms
open Go Go.ChangeShapes Go.WideShapes Go.ChangeAt Go.RowKit Go.Proofs.YtjljgldgkkfckaaDoor.M Go.Proofs.YtjljgldgkkfckaaDoor.lexes
set_option linter.unusedVariables false
set_option linter.unusedSimpArgs false

theorem door_met (os : Os) (args : Array Value) : laidMetH Tryd.prog Rows.lexFormsRow.laid ((World.doorLaid Tryd.prog 86 os).forCall (fun _ _ => 0) ⟨#[], args, []⟩).memory :=
  laidMetH_of_parts3 (fuel := 8) (laidMet_of_run' 8 (by kernel_rfl) (by kernel_rfl)) (by kernel_rfl) (by kernel_rfl)

set_option maxRecDepth 100000 in
theorem byte_arg {H : Type} {enc : TypeId × Value → H} {W : World} {v : Value} {d : DataW H} {ps : List MemPlace} {base : Nat} (hval : Value.okWide Tryd.prog W .any base 5 v) (h : DataW.Trod enc Tryd.prog W 0 (fun _ => true) true 5 v d ps) :
    ∃ c : Nat, c < 256 ∧ v = .int .u8 (.ofNat c) := by
  obtain ⟨n, rfl, rfl, rfl, hw⟩ := open_int (by kernel_rfl : Tryd.prog.underlying 5 = some (.int .u8)) hval h
  simp only [Lit.wf, Bool.and_eq_true, decide_eq_true_eq] at hw
  have h1 : (IntKind.u8).min = 0 := by decide +kernel
  have h2 : (IntKind.u8).max = 255 := by decide +kernel
  rw [h1, h2] at hw
  refine ⟨n.toNat, by omega, ?_⟩
  have : n = Int.ofNat n.toNat := by show n = ((n.toNat : Nat) : Int); omega
  rw [← this]

theorem forms_calls (z : Int) (c : Nat) (W : World) (hc : c < 256) : Calls Tryd.prog 6 #[.int .i64 z, .int .u8 (.ofNat c)] W fun e w' => e = .returned (.bool true) ∧ Below W.heap.size W w' := by
  have hs : ∀ ρ : Nat → Value, Says ρ Tryd.prog 6 [.int .i64 z, .int .u8 (.ofNat c)] (.bool true) := fun ρ => by
    rcases Nat.lt_or_ge 9 (withinN z 14 + 1) with h | h
    · exact lexForms_hi z c hc h
    · exact lexForms_lo z c hc h
  refine calls_ret (ρ := fun _ => undef) (globs_none W) rfl (fun i q hq => ?_) ((hs _ (fun _ => none) 0 (fun _ _ _ => False)).mono fun o O m h => h.1)
  match i with
  | 0 => simp at hq; subst hq; exact .int _ _
  | 1 => simp at hq; subst hq; exact .int _ _
  | i + 2 => simp at hq

set_option maxRecDepth 100000 in
theorem lifted (os : Os) (started : os.Started) (H : Type) (enc : TypeId × Value → H) :
    ReturnsInHanded {} Tryd.checked os 6 .any (fun w args => (Rows.lexFormsSpec.pre enc Tryd.prog Tryd.f6 [] false w args ∧ laidMetH Tryd.prog Rows.lexFormsRow.laid w) ∧ sizedMet enc Tryd.prog Tryd.f6 (OpenSpec.ofChange Rows.lexFormsSpec) false w args)
      (Rows.lexFormsSpec.post enc Tryd.prog Tryd.f6 false true false false) := by
  refine returnsInHanded_of_change_and (C := Tryd.checked) (X := fun w _ => laidMetH Tryd.prog Rows.lexFormsRow.laid w) (fun _ _ _ hh h => h.of_heap hh) own started (by kernel_rfl) Tryd.func6
    (ChangeSpec.witness_shaped (enc := enc) (C := Tryd.checked) (os := os) (X := fun w _ => laidMetH Tryd.prog Rows.lexFormsRow.laid w) false (World.doorLaid Tryd.prog 86 os) #[.int .i64 0, .int .u8 0] 8 rfl (World.shaped_of_RefB (by kernel_rfl) (by kernel_rfl)) (by kernel_rfl) (by kernel_rfl) (by kernel_rfl) (door_met os _)) ?_
  intro W base args ds gs before hval0 hW _ hsz _ _
  have hval : ∀ (j : Nat) t v, Tryd.f6.params[j]? = some t → args[j]? = some v → Value.okWide Tryd.prog W .any base t v := hval0
  have hW' := hW
  obtain ⟨p, q, hA0, hV, rfl, hfz, hnd⟩ := hW
  have hA : DataW.TrodAll enc Tryd.prog W 0 (fun _ => true) true Tryd.f6.params.toList args.toList ds p := hA0
  have hA1 := hA
  rw [Tryd.params6] at hA hval hsz
  obtain ⟨v0, vs0, d0, ds0, p0, q0, hargs, rfl, rfl, h0, r0⟩ := trodAll_cons hA
  obtain ⟨v1, vs1, d1, ds1, p1, q1, rfl, rfl, rfl, h1, r1⟩ := trodAll_cons r0
  obtain ⟨rfl, rfl, rfl⟩ := trodAll_nil r1
  obtain rfl : args = #[v0, v1] := by cases args; simp_all
  obtain ⟨rfl, rfl⟩ := trodVars_none hV
  obtain ⟨z, rfl⟩ := okWide_int Tryd.underlying3 (hval 0 3 v0 rfl rfl)
  obtain ⟨c, hc, rfl⟩ := byte_arg (hval 1 5 v1 rfl rfl) h1
  refine (forms_calls z c W hc).mono fun e W' ⟨he, bel⟩ => ?_
  subst he
  exact ⟨_, rfl, _, _, _, [], _, [], hW', trodAll_mk1 (shut_bool Tryd.underlying4 _), args_again (by kernel_rfl) (by kernel_rfl) (by kernel_rfl) (by kernel_rfl) hA1 bel, rfl, bel.frame _, fun h => by cases h⟩
theorem over : Rows.lexFormsRow.holds Tryd.pinned (OpenSpec.ofChange Rows.lexFormsSpec) :=
  OpenClaim.holds_of_wide 6 Tryd.f6 rfl rfl rfl rfl rfl rfl rfl ⟨rfl, rfl, rfl, rfl, rfl⟩ rfl rfl rfl rfl rfl (by kernel_rfl) Tryd.func6 (by kernel_rfl)
    (of_decide_eq_true (by kernel_rfl)) (by unfold Func.isWrapper; first | (rw [if_pos (by decide +kernel)]; kernel_rfl) | (rw [if_neg (by decide +kernel)]; exact ⟨rfl, rfl⟩))
    (fun os started H enc _ => lifted os started H enc)
theorem proved : Rows.LexFormsSaid := over
end Go.Proofs.YtjljgldgkkfckaaDoor.lexForms
namespace Go.Proofs.YtjljgldgkkfckaaDoor
/-- The tied card, for the claim. -/
theorem lexForms_card_holds : Rows.LexFormsCardSaid :=
  Claim7.holds_tied_plain_at .later [] [.data, .data, .data, .sentinel, .sentinel] true (true, "dd09167967ad9577dc32acf4bbc9ca73fa36c1407ea12830af978c9792b6dc67") true
    lexForms.proved (fun _ h => by cases h) (by kernel_rfl) (fun _ h => by cases h) lexForms_row_tie rfl ⟨rfl, rfl⟩ (by kernel_rfl) rfl
    (fun f fn hf hfn => by
      obtain rfl : f = 6 := Option.some.inj ((show Tryd.prog.funcNamed "columbary/columbarylaw04.LexForms" = some 6 by kernel_rfl).symm.trans hf) |>.symm
      obtain rfl : fn = Tryd.f6 := (Option.some.inj (Tryd.func6.symm.trans hfn)).symm
      exact ⟨by kernel_rfl, fun j t ht => by
        rw [Tryd.params6] at ht
        have hm : t ∈ [3, 5] := by simpa using Array.mem_of_getElem? ht
        have hall : ([3, 5].all fun u => !Tryd.prog.wantsStandIn u) = true := by kernel_rfl
        exact (show Tryd.prog.wantsStandIn t = false by simpa using List.all_eq_true.1 hall t hm)⟩)
    (by kernel_rfl)
end Go.Proofs.YtjljgldgkkfckaaDoor
