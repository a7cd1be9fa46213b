/- Texts of this claim, one behind the other. -/
import Derived.Test.YtphcjkdjejdakaaGreatDoorX5MbtyGood
import Derived.Test.YtphcjkdjejdakaaGreatDoorX6MbtyGood
import Derived.Test.YtphcjkdjejdakaaGreatDoorX7MbtyGood
import Derived.Test.YtphcjkdjejdakaaGreatDoorX8MbtyGood
import Derived.Test.YtphcjkdjejdakaaGreatDoorX9MbtyGood
import Derived.Test.YtphcjkdjejdakaaGreatDoorX10MbtyGood
import Derived.Test.YtphcjkdjejdakaaGreatDoorX11MbtyGood
import Derived.Test.YtphcjkdjejdakaaGreatDoorX12MbtyGood
import Derived.Test.YtphcjkdjejdakaaGreatDoorX13MbtyGood
/- MbtyGood says true. -/
namespace Go.Proofs.YtphcjkdjejdakaaGreatDoor.M
open Go Go.RowKit
set_option linter.unusedSimpArgs false
set_option linter.unusedVariables false
variable {ρ : Nat → Value}

set_option maxRecDepth 100000
theorem allP : ∀ e ∈ [tP0_0, tP0_1, tP0_2, tP1_0, tP1_1, tP1_2, tP1_3, tP2_0, tP2_1, tP2_2, tP2_3, tP2_4, tP3_1, tP3_2, tP3_3, tP3_4, tP3_5, tP4_2, tP4_3, tP4_4, tP4_5, tP4_6, tP5_3, tP5_4, tP5_5, tP5_6, tP5_7], Says ρ Tryz.prog 10 e.1 e.2 := by
  intro e he
  simp only [List.mem_cons, List.not_mem_nil, or_false] at he
  rcases he with rfl | rfl | rfl | rfl | rfl | rfl | rfl | rfl | rfl | rfl | rfl | rfl | rfl | rfl | rfl | rfl | rfl | rfl | rfl | rfl | rfl | rfl | rfl | rfl | rfl | rfl | rfl
  · exact sP0_0
  · exact sP0_1
  · exact sP0_2
  · exact sP1_0
  · exact sP1_1
  · exact sP1_2
  · exact sP1_3
  · exact sP2_0
  · exact sP2_1
  · exact sP2_2
  · exact sP2_3
  · exact sP2_4
  · exact sP3_1
  · exact sP3_2
  · exact sP3_3
  · exact sP3_4
  · exact sP3_5
  · exact sP4_2
  · exact sP4_3
  · exact sP4_4
  · exact sP4_5
  · exact sP4_6
  · exact sP5_3
  · exact sP5_4
  · exact sP5_5
  · exact sP5_6
  · exact sP5_7
theorem allD : ∀ e ∈ [tD0_0, tD0_1, tD0_2, tD1_0, tD1_1, tD1_2, tD1_3, tD2_0, tD2_1, tD2_2, tD2_3, tD2_4, tD3_1, tD3_2, tD3_3, tD3_4, tD3_5, tD4_2, tD4_3, tD4_4, tD4_5, tD4_6, tD5_3, tD5_4, tD5_5, tD5_6, tD5_7], Says ρ Tryz.prog 11 e.1 e.2 := by
  intro e he
  simp only [List.mem_cons, List.not_mem_nil, or_false] at he
  rcases he with rfl | rfl | rfl | rfl | rfl | rfl | rfl | rfl | rfl | rfl | rfl | rfl | rfl | rfl | rfl | rfl | rfl | rfl | rfl | rfl | rfl | rfl | rfl | rfl | rfl | rfl | rfl
  · exact sD0_0
  · exact sD0_1
  · exact sD0_2
  · exact sD1_0
  · exact sD1_1
  · exact sD1_2
  · exact sD1_3
  · exact sD2_0
  · exact sD2_1
  · exact sD2_2
  · exact sD2_3
  · exact sD2_4
  · exact sD3_1
  · exact sD3_2
  · exact sD3_3
  · exact sD3_4
  · exact sD3_5
  · exact sD4_2
  · exact sD4_3
  · exact sD4_4
  · exact sD4_5
  · exact sD4_6
  · exact sD5_3
  · exact sD5_4
  · exact sD5_5
  · exact sD5_6
  · exact sD5_7

theorem wakes_says : Says ρ Tryz.prog 12 [] (.bool true) := says_toldT follows glob_ok runG_ok (fun q hq => by cases hq) (by kernel_rfl)

/-- The argument of that name, and a bound. -/
def argsS (s b : Nat) : List V → Bool
  | [.sym i, .int .i64 (.ofNat c)] => Nat.beq i s && Nat.beq c b
  | _ => false
theorem argsS_ok {s b : Nat} {l : List V} (h : argsS s b l = true) : l = [.sym s, .int .i64 (.ofNat b)] := by
  unfold argsS at h
  split at h
  · simp only [Bool.and_eq_true, Nat.beq_eq] at h
    rw [h.1, h.2]
  · cases h
def ToldS (ρ : Nat → Value) (f0 : FuncId) (s b k : Nat) : Prop :=
  ∀ (objs : Objs) (next : Nat) (forb : CellP), QCalls ρ Tryz.prog f0 [.sym s, .int .i64 (.ofNat b)] objs next forb (fun o O m => o = .ret (.int .i64 (.ofNat k)) ∧ O = objs ∧ m = next)
theorem toldS_of {f0 : FuncId} {s b k : Nat} {n : Int} (hρ : ρ s = .int .i64 n)
    (h : ∀ (objs : Objs) (next : Nat) (forb : CellP), QCalls ρ Tryz.prog f0 [.int .i64 n, .int .i64 (.ofNat b)] objs next forb (fun o O m => o = .ret (.int .i64 (.ofNat k)) ∧ O = objs ∧ m = next)) : ToldS ρ f0 s b k := by
  intro objs next forb w A T vals h1 h2 h3 h4
  refine h objs next forb w A T vals h1 h2 h3 fun i q hq => ?_
  match i with
  | 0 =>
    simp at hq
    subst hq
    have := h4 0 (.sym s) rfl
    cases this with
    | pure h =>
      generalize hv : vals.getD 0 undef = z at h
      cases h
      rw [hρ]
      exact .pure (.int _ _)
  | 1 => exact h4 1 q (by simpa using hq)
  | i + 2 => simp at hq

noncomputable def ovTwo (j k : Nat) : OvT := fun args _ hp nx kr _ => boolK (argsS 0 6 args) (kr (.int .i64 (.ofNat j)) hp nx) (must (argsS 1 5 args) (kr (.int .i64 (.ofNat k)) hp nx))
theorem ovTwo_ok {f0 : FuncId} {j k : Nat} (h1 : ToldS ρ f0 0 6 j) (h2 : ToldS ρ f0 1 5 k) : OvOK ρ Tryz.prog f0 (ovTwo j k) := by
  intro args forb hp nx kr kp h
  rcases boolK_inv h with ⟨g, h⟩ | ⟨_, h⟩
  · rw [argsS_ok g]
    refine (h1 (absO hp) nx (inL forb)).mono fun o O m ⟨e1, e2, e3⟩ => ?_
    rw [e1, e2, e3]
    exact ⟨hp, rfl, h⟩
  · obtain ⟨g, h⟩ := must_inv h
    rw [argsS_ok g]
    refine (h2 (absO hp) nx (inL forb)).mono fun o O m ⟨e1, e2, e3⟩ => ?_
    rw [e1, e2, e3]
    exact ⟨hp, rfl, h⟩

noncomputable def callG (j k : Nat) : CallT := over 5 (ovTwo j k) (over 10 (ovTabD [tP0_0, tP0_1, tP0_2, tP1_0, tP1_1, tP1_2, tP1_3, tP2_0, tP2_1, tP2_2, tP2_3, tP2_4, tP3_1, tP3_2, tP3_3, tP3_4, tP3_5, tP4_2, tP4_3, tP4_4, tP4_5, tP4_6, tP5_3, tP5_4, tP5_5, tP5_6, tP5_7]) (over 11 (ovTabD [tD0_0, tD0_1, tD0_2, tD1_0, tD1_1, tD1_2, tD1_3, tD2_0, tD2_1, tD2_2, tD2_3, tD2_4, tD3_1, tD3_2, tD3_3, tD3_4, tD3_5, tD4_2, tD4_3, tD4_4, tD4_5, tD4_6, tD5_3, tD5_4, tD5_5, tD5_6, tD5_7]) (over 12 (ovTab [([], .bool true)]) runG)))
theorem callG_ok {j k : Nat} (h1 : ToldS ρ 5 0 6 j) (h2 : ToldS ρ 5 1 5 k) : CallOK ρ Tryz.prog (callG j k) :=
  over_ok (ovTwo_ok h1 h2) (over_ok (ovTabD_ok allP) (over_ok (ovTabD_ok allD) (over_ok (ovTab_ok (fun e he => by simp at he; subst he; exact wakes_says)) runG_ok)))
noncomputable def goodRun (j k : Nat) : Bool := isOk ((bdy Tryz.prog glob 3).run (callG j k) [.sym 0, .sym 1] [] hp0 0 sayTrue sayNo)
theorem good_runs : ((List.range 6).all fun j => (List.range 5).all fun k => goodRun j k) = true := by kernel_rfl

theorem good_true {w : World} (hg : Globs w fun _ => False) (v0 v1 : Value) (n0 n1 : Int) (hv0 : v0 = .int .i64 n0) (hv1 : v1 = .int .i64 n1) : Calls Tryz.prog 3 #[v0, v1] w fun e w' => e = .returned (.bool true) ∧ Below w.heap.size w w' := by
  have hj := withinN_lt n0 (b := 6) (by omega) (by omega)
  have hk := withinN_lt n1 (b := 5) (by omega) (by omega)
  let ρ : Nat → Value := fun i => match i with | 0 => v0 | _ => v1
  have h1 : ToldS ρ 5 0 6 (withinN n0 6) := toldS_of (n := n0) hv0 (by rw [← withinN_eq n0 (by omega) (by omega)]; exact within_says n0 6 (by omega))
  have h2 : ToldS ρ 5 1 5 (withinN n1 5) := toldS_of (n := n1) hv1 (by rw [← withinN_eq n1 (by omega) (by omega)]; exact within_says n1 5 (by omega))
  have h3 : goodRun (withinN n0 6) (withinN n1 5) = true := List.all_eq_true.mp (List.all_eq_true.mp good_runs _ (List.mem_range.mpr hj)) _ (List.mem_range.mpr hk)
  have h4 := bdy_sound (ρ := ρ) follows glob_ok (callG_ok h1 h2) (isOk_ok h3)
  rw [absO_hp0, inL_nil] at h4
  refine calls_ret (ρ := ρ) hg (args := [.sym 0, .sym 1]) rfl (fun i q hq => ?_) (h4.mono fun o O m hr => ?_)
  · match i with
    | 0 => simp at hq; subst hq; exact .sym 0 (by subst hv0; rfl)
    | 1 => simp at hq; subst hq; exact .sym 1 (by subst hv1; rfl)
    | i + 2 => simp at hq
  · cases o with
    | ret v =>
      obtain ⟨hp, _, h⟩ := hr
      obtain ⟨t, h1, h⟩ := V.onBool_inv h
      rcases boolK_inv h with ⟨rfl, _⟩ | ⟨_, h⟩
      · rw [h1]
      · exact Ans.no h
    | panic v =>
      obtain ⟨hp, _, h⟩ := hr
      exact Ans.no h
end Go.Proofs.YtphcjkdjejdakaaGreatDoor.M
