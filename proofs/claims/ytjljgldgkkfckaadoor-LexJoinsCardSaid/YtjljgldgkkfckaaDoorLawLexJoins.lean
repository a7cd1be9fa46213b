/- LexJoins: the row and its card. -/
import Derived.Test.YtjljgldgkkfckaaDoorCards
import Derived.Test.YtjljgldgkkfckaaDoorTie
import Derived.Test.YtjljgldgkkfckaaDoorLawLex
import Derived.Test.YtjljgldgkkfckaaDoorMLex13
namespace Go.Proofs.YtjljgldgkkfckaaDoor.lexJoins
open Go Go.ChangeShapes Go.WideShapes Go.ChangeAt Go.RowKit Go.Proofs.YtjljgldgkkfckaaDoor.M Go.Proofs.YtjljgldgkkfckaaDoor.lexes
set_option linter.unusedVariables false
set_option linter.unusedSimpArgs false

theorem door_met (os : Os) (args : Array Value) : laidMetH Tryd.prog Rows.lexJoinsRow.laid ((World.doorLaid Tryd.prog 86 os).forCall (fun _ _ => 0) ⟨#[], args, []⟩).memory :=
  laidMetH_of_parts3 (fuel := 8) (laidMet_of_run' 8 (by kernel_rfl) (by kernel_rfl)) (by kernel_rfl) (by kernel_rfl)

theorem says_calls3 {f : FuncId} {W : World} {s : ByteArray} {v v2 : Value} {pa pb : List Int} (hr : ∀ ρ : Nat → Value, RepP ρ W (fun _ => False) (.ro 1 (pa.map pickRow)) v) (hr2 : ∀ ρ : Nat → Value, RepP ρ W (fun _ => False) (.ro 1 (pb.map pickRow)) v2)
    (h : ∀ ρ : Nat → Value, Says ρ Tryd.prog f [.ps s.size (packL s.data.toList), .ro 1 (pa.map pickRow), .ro 1 (pb.map pickRow)] (.bool true)) : Calls Tryd.prog f #[.string s, v, v2] W fun e w' => e = .returned (.bool true) ∧ Below W.heap.size W w' := by
  refine calls_ret (ρ := fun _ => undef) (globs_none W) rfl (fun i q hq => ?_) ((h _ (fun _ => none) 0 (fun _ _ _ => False)).mono fun o O m h => h.1)
  match i with
  | 0 => simp at hq; subst hq; exact text_arg _ W s
  | 1 => simp at hq; subst hq; exact hr _
  | 2 => simp at hq; subst hq; exact hr2 _
  | i + 3 => simp at hq

set_option maxRecDepth 100000 in
theorem lifted (os : Os) (started : os.Started) (H : Type) (enc : TypeId × Value → H) :
    ReturnsInHanded {} Tryd.checked os 5 .any (fun w args => (Rows.lexJoinsSpec.pre enc Tryd.prog Tryd.f5 [] false w args ∧ laidMetH Tryd.prog Rows.lexJoinsRow.laid w) ∧ sizedMet enc Tryd.prog Tryd.f5 (OpenSpec.ofChange Rows.lexJoinsSpec) false w args)
      (Rows.lexJoinsSpec.post enc Tryd.prog Tryd.f5 false true false false) := by
  refine returnsInHanded_of_change_and (C := Tryd.checked) (X := fun w _ => laidMetH Tryd.prog Rows.lexJoinsRow.laid w) (fun _ _ _ hh h => h.of_heap hh) own started (by kernel_rfl) Tryd.func5
    (ChangeSpec.witness_shaped (enc := enc) (C := Tryd.checked) (os := os) (X := fun w _ => laidMetH Tryd.prog Rows.lexJoinsRow.laid w) false (World.doorLaid Tryd.prog 86 os) #[.string ⟨#[]⟩, .slice none 0 0, .slice none 0 0] 8 rfl (World.shaped_of_RefB (by kernel_rfl) (by kernel_rfl)) (by kernel_rfl) (by kernel_rfl) (by kernel_rfl) (door_met os _)) ?_
  intro W base args ds gs before hval0 hW _ hsz _ _
  have hval : ∀ (j : Nat) t v, Tryd.f5.params[j]? = some t → args[j]? = some v → Value.okWide Tryd.prog W .any base t v := hval0
  have hW' := hW
  obtain ⟨p, q, hA0, hV, rfl, hfz, hnd⟩ := hW
  have hA : DataW.TrodAll enc Tryd.prog W 0 (fun _ => true) true Tryd.f5.params.toList args.toList ds p := hA0
  have hA1 := hA
  rw [Tryd.params5] at hA hval hsz
  obtain ⟨v0, vs0, d0, ds0, p0, q0, hargs, rfl, rfl, h0, r0⟩ := trodAll_cons hA
  obtain ⟨v1, vs1, d1, ds1, p1, q1, rfl, rfl, rfl, h1, r1⟩ := trodAll_cons r0
  obtain ⟨v2, vs2, d2, ds2, p2, q2, rfl, rfl, rfl, h2, r2⟩ := trodAll_cons r1
  obtain ⟨rfl, rfl, rfl⟩ := trodAll_nil r2
  obtain rfl : args = #[v0, v1, v2] := by cases args; simp_all
  obtain ⟨rfl, rfl⟩ := trodVars_none hV
  obtain ⟨s, rfl, rfl, rfl⟩ := str_arg Tryd.underlying9 (hval 0 9 v0 rfl rfl) h0
  have hs : s.size ≤ 140737488355328 := by
    have h := sized_string hsz (j := 0) (t := 9) rfl rfl
    rw [Array.length_toList] at h
    have := reachBytes_lt
    have e : s.data.size = s.size := rfl
    omega
  obtain ⟨picks, hp, hr⟩ := ints_arg Tryd.underlying22 Tryd.underlying3 (by kernel_rfl) (hval 1 22 v1 rfl rfl) h1 (fun l r e => by
    subst e
    have h := sized_slice hsz (j := 1) (t := 22) rfl rfl Tryd.underlying22
    have e8 : Tryd.checked.prog.bytesOf 3 = 8 := by kernel_rfl
    rwa [e8] at h)
  obtain ⟨picks2, hp2, hr2⟩ := ints_arg Tryd.underlying22 Tryd.underlying3 (by kernel_rfl) (hval 2 22 v2 rfl rfl) h2 (fun l r e => by
    subst e
    have h := sized_slice hsz (j := 2) (t := 22) rfl rfl Tryd.underlying22
    have e8 : Tryd.checked.prog.bytesOf 3 = 8 := by kernel_rfl
    rwa [e8] at h)
  refine (says_calls3 hr hr2 fun ρ => lexJoins_says _ _ _ _ hs hp hp2).mono fun e W' ⟨he, bel⟩ => ?_
  subst he
  exact ⟨_, rfl, _, _, _, [], _, [], hW', trodAll_mk1 (shut_bool Tryd.underlying4 _), args_again (by kernel_rfl) (by kernel_rfl) (by kernel_rfl) (by kernel_rfl) hA1 bel, rfl, bel.frame _, fun h => by cases h⟩
theorem over : Rows.lexJoinsRow.holds Tryd.pinned (OpenSpec.ofChange Rows.lexJoinsSpec) :=
  OpenClaim.holds_of_wide 5 Tryd.f5 rfl rfl rfl rfl rfl rfl rfl ⟨rfl, rfl, rfl, rfl, rfl⟩ rfl rfl rfl rfl rfl (by kernel_rfl) Tryd.func5 (by kernel_rfl)
    (of_decide_eq_true (by kernel_rfl)) (by unfold Func.isWrapper; first | (rw [if_pos (by decide +kernel)]; kernel_rfl) | (rw [if_neg (by decide +kernel)]; exact ⟨rfl, rfl⟩))
    (fun os started H enc _ => lifted os started H enc)
theorem proved : Rows.LexJoinsSaid := over
end Go.Proofs.YtjljgldgkkfckaaDoor.lexJoins
namespace Go.Proofs.YtjljgldgkkfckaaDoor
/-- The tied card, for the claim. -/
theorem lexJoins_card_holds : Rows.LexJoinsCardSaid :=
  Claim7.holds_tied_plain_at .later [] [.data, .data, .data, .sentinel, .sentinel] true (true, "dd09167967ad9577dc32acf4bbc9ca73fa36c1407ea12830af978c9792b6dc67") true
    lexJoins.proved (fun _ h => by cases h) (by kernel_rfl) (fun _ h => by cases h) lexJoins_row_tie rfl ⟨rfl, rfl⟩ (by kernel_rfl) rfl
    (fun f fn hf hfn => by
      obtain rfl : f = 5 := Option.some.inj ((show Tryd.prog.funcNamed "columbary/columbarylaw04.LexJoins" = some 5 by kernel_rfl).symm.trans hf) |>.symm
      obtain rfl : fn = Tryd.f5 := (Option.some.inj (Tryd.func5.symm.trans hfn)).symm
      exact ⟨by kernel_rfl, fun j t ht => by
        rw [Tryd.params5] at ht
        have hm : t ∈ [9, 22, 22] := by simpa using Array.mem_of_getElem? ht
        have hall : ([9, 22, 22].all fun u => !Tryd.prog.wantsStandIn u) = true := by kernel_rfl
        exact (show Tryd.prog.wantsStandIn t = false by simpa using List.all_eq_true.1 hall t hm)⟩)
    (by kernel_rfl)
end Go.Proofs.YtjljgldgkkfckaaDoor
