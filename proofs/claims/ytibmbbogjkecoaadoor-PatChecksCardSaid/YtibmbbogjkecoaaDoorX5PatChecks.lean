/- Texts of this claim, one behind the other. -/
import Derived.Test.YtibmbbogjkecoaaDoorX4PatChecks
import Derived.Test.YtibmbbogjkecoaaDoorX3PatChecks
import Derived.Laws.StandIn
import Derived.WalkKit
import Derived.ProofKit
import Derived.OpenShut
import Derived.ChangeOld
import Derived.ChangeSlices
import Derived.Below
import Derived.SizedLaws
import Derived.LaidMore
import Derived.Stop.Joined
/- PatChecks: the law's body. -/
namespace Go.Proofs.YtibmbbogjkecoaaDoor.M
open Go
set_option linter.unusedSimpArgs false
set_option linter.unusedVariables false
variable {ρ : Nat → Value}

attribute [local irreducible] forceN forceZ forceB okIf roundsK valK rowAt listK
attribute [local irreducible] acc4 get4 put4 natZ aggsK withinN
set_option maxRecDepth 100000

set_option maxHeartbeats 4000000 in
theorem check_nil (tags : Int) : Says ρ Tryd.prog 11 [.sc (.slice none 0 0), .int .i64 tags] (.bool false) := by
  refine says_run (call := over 19 (inl 19 call0) call0) follows globL_ok (over_ok (inl_ok _ call0_ok) call0_ok) (arg2 rfl rfl) ?_
  repeat' ((conv => lhs; whnf); first | ((with_reducible show natZ _ _ _ _ = _); first | refine natZ_nat ?_ | refine natZ_add ?_ | refine natZ_eql_t (by first | assumption | omega) ?_ | refine natZ_eql_f (by first | assumption | omega) ?_ | refine natZ_eql (fun h => ?_) (fun h => ?_) | refine natZ_neq_t (by first | assumption | omega) ?_ | refine natZ_neq_f (by first | assumption | omega) ?_ | (refine natZ_neqS (fun h => ?_) (fun h => ?_) <;> (try subst h)) | refine natZ_lss_t (by first | assumption | omega) ?_ | refine natZ_lss_f (by first | assumption | omega) ?_ | refine natZ_lss (fun h => ?_) (fun h => ?_) | refine natZ_leq_t (by first | assumption | omega) ?_ | refine natZ_leq_f (by first | assumption | omega) ?_ | refine natZ_leq (fun h => ?_) (fun h => ?_) | refine natZ_gtr_t (by first | assumption | omega) ?_ | refine natZ_gtr_f (by first | assumption | omega) ?_ | refine natZ_gtr (fun h => ?_) (fun h => ?_) | refine natZ_geq_t (by first | assumption | omega) ?_ | refine natZ_geq_f (by first | assumption | omega) ?_ | refine natZ_geq (fun h => ?_) (fun h => ?_) | refine natZ_quo (b := 8) rfl (by omega) ?_ | refine natZ_quo (b := 16) rfl (by omega) ?_ | refine natZ_quo (b := 64) rfl (by omega) ?_ | fail) | ((with_reducible show valK _ _ = _); first | ((conv => lhs; arg 1; whnf); refine valK_ok ?_) | fail) | ((with_reducible show listK _ _ = _); first | ((conv => lhs; arg 1; whnf); first | refine listK_cons ?_ | refine listK_nil ?_) | fail) | ((with_reducible show forceB _ _ = _); first | refine forceB_ok ?_ | fail) | ((with_reducible show forceN _ _ = _); first | refine forceN_mod ?_ | refine forceN_div ?_ | refine forceN_add ?_ | refine forceN_sub ?_ | refine forceN_suc ?_ | refine forceN_part ?_ | refine forceN_byte ?_ | refine forceN_ok ?_ | fail) | ((with_reducible show forceZ _ _ = _); first | refine forceZ_add ?_ | refine forceZ_mul (by (try simp only [maxK]); omega) ?_ | refine forceZ_sub ?_ | refine forceZ_ok ?_ | fail) | ((with_reducible show rowAt _ _ _ = _); first | refine rowAt_ok (byteRows_get (by (try simp only [maxK]); omega)) ?_ | (apply rowAt_ok; (focus assumption)) | fail) | ((with_reducible show Bool.rec (motive := fun _ => AnsT) _ _ _ = _); first | refine br_true (Nat.beq_refl _) ?_ | refine br_true (by assumption) ?_ | refine br_false (by assumption) ?_ | refine br_max (by (try simp only [maxK]); omega) ?_ | refine br_ble_t (by (try simp only [maxK]); omega) ?_ | refine br_ble_f (by (try simp only [maxK]); omega) ?_ | refine br_beq_f (by (try simp only [maxK]); omega) ?_ | refine br_true (by simp only [Bool.and_eq_true, Nat.ble_eq]; (try simp only []); omega) ?_ | (refine br_ble (fun h => ?_) (fun h => ?_) <;> (try simp only [] at h)) | (refine br_beq (fun h => ?_) (fun h => ?_) <;> (try simp only [] at h)) | refine br_split (fun h => ?_) (fun h => ?_) | fail) | ((with_reducible show (acc4 _ _).upd _ _ _ = _); first | refine acc4_upd_ok (by omega) ?_ | fail) | ((with_reducible show (acc4 _ _).get _ _ = _); first | refine acc4_get_same (by omega) ?_ | refine acc4_get_other (by omega) (by omega) (by omega) ?_ | refine acc4_get_ok (by omega) (by assumption) ?_ | fail) | refine opt3_split (fun h => ?_) (fun kind num tl h => ?_) | refine int_split (fun a h => ?_) (fun a h => ?_) | fail)
  all_goals (try (conv => lhs; whnf))
  all_goals exact okIf_ok (frz_bool rfl)
set_option maxHeartbeats 4000000 in
theorem checkPat_nil (tags : Int) : Says ρ Tryd.prog 12 [.sc (.slice none 0 0), .int .i64 tags] (.bool false) := by
  refine says_run (call := call0) follows globL_ok call0_ok (arg2 rfl rfl) ?_
  repeat' ((conv => lhs; whnf); first | ((with_reducible show natZ _ _ _ _ = _); first | refine natZ_nat ?_ | refine natZ_add ?_ | refine natZ_eql_t (by first | assumption | omega) ?_ | refine natZ_eql_f (by first | assumption | omega) ?_ | refine natZ_eql (fun h => ?_) (fun h => ?_) | refine natZ_neq_t (by first | assumption | omega) ?_ | refine natZ_neq_f (by first | assumption | omega) ?_ | (refine natZ_neqS (fun h => ?_) (fun h => ?_) <;> (try subst h)) | refine natZ_lss_t (by first | assumption | omega) ?_ | refine natZ_lss_f (by first | assumption | omega) ?_ | refine natZ_lss (fun h => ?_) (fun h => ?_) | refine natZ_leq_t (by first | assumption | omega) ?_ | refine natZ_leq_f (by first | assumption | omega) ?_ | refine natZ_leq (fun h => ?_) (fun h => ?_) | refine natZ_gtr_t (by first | assumption | omega) ?_ | refine natZ_gtr_f (by first | assumption | omega) ?_ | refine natZ_gtr (fun h => ?_) (fun h => ?_) | refine natZ_geq_t (by first | assumption | omega) ?_ | refine natZ_geq_f (by first | assumption | omega) ?_ | refine natZ_geq (fun h => ?_) (fun h => ?_) | refine natZ_quo (b := 8) rfl (by omega) ?_ | refine natZ_quo (b := 16) rfl (by omega) ?_ | refine natZ_quo (b := 64) rfl (by omega) ?_ | fail) | ((with_reducible show valK _ _ = _); first | ((conv => lhs; arg 1; whnf); refine valK_ok ?_) | fail) | ((with_reducible show listK _ _ = _); first | ((conv => lhs; arg 1; whnf); first | refine listK_cons ?_ | refine listK_nil ?_) | fail) | ((with_reducible show forceB _ _ = _); first | refine forceB_ok ?_ | fail) | ((with_reducible show forceN _ _ = _); first | refine forceN_mod ?_ | refine forceN_div ?_ | refine forceN_add ?_ | refine forceN_sub ?_ | refine forceN_suc ?_ | refine forceN_part ?_ | refine forceN_byte ?_ | refine forceN_ok ?_ | fail) | ((with_reducible show forceZ _ _ = _); first | refine forceZ_add ?_ | refine forceZ_mul (by (try simp only [maxK]); omega) ?_ | refine forceZ_sub ?_ | refine forceZ_ok ?_ | fail) | ((with_reducible show rowAt _ _ _ = _); first | refine rowAt_ok (byteRows_get (by (try simp only [maxK]); omega)) ?_ | (apply rowAt_ok; (focus assumption)) | fail) | ((with_reducible show Bool.rec (motive := fun _ => AnsT) _ _ _ = _); first | refine br_true (Nat.beq_refl _) ?_ | refine br_true (by assumption) ?_ | refine br_false (by assumption) ?_ | refine br_max (by (try simp only [maxK]); omega) ?_ | refine br_ble_t (by (try simp only [maxK]); omega) ?_ | refine br_ble_f (by (try simp only [maxK]); omega) ?_ | refine br_beq_f (by (try simp only [maxK]); omega) ?_ | refine br_true (by simp only [Bool.and_eq_true, Nat.ble_eq]; (try simp only []); omega) ?_ | (refine br_ble (fun h => ?_) (fun h => ?_) <;> (try simp only [] at h)) | (refine br_beq (fun h => ?_) (fun h => ?_) <;> (try simp only [] at h)) | refine br_split (fun h => ?_) (fun h => ?_) | fail) | ((with_reducible show (acc4 _ _).upd _ _ _ = _); first | refine acc4_upd_ok (by omega) ?_ | fail) | ((with_reducible show (acc4 _ _).get _ _ = _); first | refine acc4_get_same (by omega) ?_ | refine acc4_get_other (by omega) (by omega) (by omega) ?_ | refine acc4_get_ok (by omega) (by assumption) ?_ | fail) | refine opt3_split (fun h => ?_) (fun kind num tl h => ?_) | refine int_split (fun a h => ?_) (fun a h => ?_) | fail)
  all_goals (try (conv => lhs; whnf))
  all_goals exact okIf_ok (frz_bool rfl)

/-- What both checkers answer. -/
noncomputable def ovChecks : OvT := fun args _ hp nx kr _ => match args with
  | [.sc (.slice none 0 0), .int .i64 tags] => kr (.bool false) hp nx
  | [.ro 5 rows, .int .i64 tags] => okIf (∃ pr : List Nd, rows = pr.map Nd.row ∧ pr.length ≤ 30 ∧ kr (.bool (checkM tags pr)) hp nx = .ok)
  | _ => .err 1
theorem ovChecks_ok {f : FuncId} (h1 : ∀ tags, Says ρ Tryd.prog f [.sc (.slice none 0 0), .int .i64 tags] (.bool false)) (h2 : ∀ (l : List Nd) tags, l.length ≤ 140737488355328 → Says ρ Tryd.prog f [.ro 5 (l.map Nd.row), .int .i64 tags] (.bool (checkM tags l))) : OvOK ρ Tryd.prog f ovChecks := by
  intro args forb hp nx kr kp hk
  unfold ovChecks at hk
  split at hk
  · refine (h1 _ (absO hp) nx (inL forb)).mono ?_
    rintro o O m ⟨e1, e2, e3⟩
    subst e1 e2 e3
    exact ⟨hp, rfl, hk⟩
  · obtain ⟨pr, rfl, hl, hk⟩ := okIf_inv hk
    refine (h2 pr _ (by omega) (absO hp) nx (inL forb)).mono ?_
    rintro o O m ⟨e1, e2, e3⟩
    subst e1 e2 e3
    exact ⟨hp, rfl, hk⟩
  · exact Ans.no hk
noncomputable def ovNodes : OvT := ovE fun
  | [.ro 5 rows, .ro 1 ls, .int .i64 how] => some (∃ (raw : List Nd) (l : List Int), rows = raw.map Nd.row ∧ ls = l.map pickRow ∧ raw.length ≤ 140737488355328 ∧ l.length ≤ 140737488355328, isNodes)
  | _ => none
theorem ovNodes_ok : OvOK ρ Tryd.prog 10 ovNodes := ov_saysE fun args c R h hc => by
  split at h
  · cases h
    obtain ⟨raw, l, rfl, rfl, h1, h2⟩ := hc
    exact nodes_says raw l _ h1 h2
  · cases h
noncomputable def ovTrue : OvT := ovF fun
  | [] => some (true, .bool true)
  | _ => none
theorem ovTrue_ok {f : FuncId} (h0 : Says ρ Tryd.prog f [] (.bool true)) : OvOK ρ Tryd.prog f ovTrue := ov_says fun args v h => by
  split at h
  · cases h; exact h0
  · cases h

attribute [local irreducible] askP allK checkM
set_option maxHeartbeats 4000000 in
theorem patChecks_says (hw : Says ρ Tryd.prog 9 [] (.bool true)) (raw : List Nd) (l : List Int) (how tags : Int) (hraw : raw.length ≤ 140737488355328) (hl : l.length ≤ 140737488355328) :
    Says ρ Tryd.prog 4 [.ro 5 (raw.map Nd.row), .ro 1 (l.map pickRow), .int .i64 how, .int .i64 tags] (.bool true) := by
  refine says_run (call := over 7 ovWithin (over 10 ovNodes (over 11 ovChecks (over 12 ovChecks (over 9 ovTrue call0)))))
    follows globL_ok (over_ok ovWithin_ok (over_ok ovNodes_ok (over_ok (ovChecks_ok check_nil (fun l tags h => check_says l tags h)) (over_ok (ovChecks_ok checkPat_nil (fun l tags h => checkPat_says l tags h)) (over_ok (ovTrue_ok hw) call0_ok))))) ?_ ?_
  · intro q hq
    simp at hq
    rcases hq with rfl | rfl | rfl | rfl <;> exact .flat _ rfl
  repeat' (first | ((conv => lhs; whnf); first | ((with_reducible show natZ _ _ _ _ = _); first | refine natZ_nat ?_ | refine natZ_add ?_ | refine natZ_eql_t (by first | assumption | omega) ?_ | refine natZ_eql_f (by first | assumption | omega) ?_ | refine natZ_eql (fun h => ?_) (fun h => ?_) | refine natZ_neq_t (by first | assumption | omega) ?_ | refine natZ_neq_f (by first | assumption | omega) ?_ | (refine natZ_neqS (fun h => ?_) (fun h => ?_) <;> (try subst h)) | refine natZ_lss_t (by first | assumption | omega) ?_ | refine natZ_lss_f (by first | assumption | omega) ?_ | refine natZ_lss (fun h => ?_) (fun h => ?_) | refine natZ_leq_t (by first | assumption | omega) ?_ | refine natZ_leq_f (by first | assumption | omega) ?_ | refine natZ_leq (fun h => ?_) (fun h => ?_) | refine natZ_gtr_t (by first | assumption | omega) ?_ | refine natZ_gtr_f (by first | assumption | omega) ?_ | refine natZ_gtr (fun h => ?_) (fun h => ?_) | refine natZ_geq_t (by first | assumption | omega) ?_ | refine natZ_geq_f (by first | assumption | omega) ?_ | refine natZ_geq (fun h => ?_) (fun h => ?_) | refine natZ_quo (b := 8) rfl (by omega) ?_ | refine natZ_quo (b := 16) rfl (by omega) ?_ | refine natZ_quo (b := 64) rfl (by omega) ?_ | fail) | ((with_reducible show valK _ _ = _); first | ((conv => lhs; arg 1; whnf); refine valK_ok ?_) | fail) | ((with_reducible show listK _ _ = _); first | ((conv => lhs; arg 1; whnf); first | refine listK_cons ?_ | refine listK_nil ?_) | fail) | ((with_reducible show forceB _ _ = _); first | refine forceB_ok ?_ | fail) | ((with_reducible show forceN _ _ = _); first | refine forceN_mod ?_ | refine forceN_div ?_ | refine forceN_add ?_ | refine forceN_sub ?_ | refine forceN_suc ?_ | refine forceN_part ?_ | refine forceN_byte ?_ | refine forceN_ok ?_ | fail) | ((with_reducible show forceZ _ _ = _); first | refine forceZ_add ?_ | refine forceZ_mul (by (try simp only [maxK]); omega) ?_ | refine forceZ_sub ?_ | refine forceZ_ok ?_ | fail) | ((with_reducible show rowAt _ _ _ = _); first | refine rowAt_ok (byteRows_get (by (try simp only [maxK]); omega)) ?_ | (apply rowAt_ok; (focus assumption)) | fail) | ((with_reducible show Bool.rec (motive := fun _ => AnsT) _ _ _ = _); first | refine br_true (Nat.beq_refl _) ?_ | refine br_true (by assumption) ?_ | refine br_false (by assumption) ?_ | refine br_max (by (try simp only [maxK]); omega) ?_ | refine br_ble_t (by (try simp only [maxK]); omega) ?_ | refine br_ble_f (by (try simp only [maxK]); omega) ?_ | refine br_beq_f (by (try simp only [maxK]); omega) ?_ | refine br_true (by simp only [Bool.and_eq_true, Nat.ble_eq]; (try simp only []); omega) ?_ | (refine br_ble (fun h => ?_) (fun h => ?_) <;> (try simp only [] at h)) | (refine br_beq (fun h => ?_) (fun h => ?_) <;> (try simp only [] at h)) | refine br_split (fun h => ?_) (fun h => ?_) | fail) | ((with_reducible show (acc4 _ _).upd _ _ _ = _); first | refine acc4_upd_ok (by omega) ?_ | fail) | ((with_reducible show (acc4 _ _).get _ _ = _); first | refine acc4_get_same (by omega) ?_ | refine acc4_get_other (by omega) (by omega) (by omega) ?_ | refine acc4_get_ok (by omega) (by assumption) ?_ | fail) | refine opt3_split (fun h => ?_) (fun kind num tl h => ?_) | refine int_split (fun a h => ?_) (fun a h => ?_) | fail) | ((conv => lhs; whnf); first | refine natZ_rem (b := 2) rfl (by omega) rfl ?_ | refine askP_ok ⟨raw, l, rfl, rfl, hraw, hl⟩ ?_ | (refine allK_ok fun v hv => ?_; rcases hv with rfl | ⟨pr, hpr, rfl⟩) | refine okIf_ok ⟨_, rfl, ‹_›, ?_⟩ | refine forceB_as true (by simp) ?_ | fail))
  all_goals (try (conv => lhs; whnf))
  all_goals first
  | exact okIf_ok (frz_bool rfl)
  | simp_all
end Go.Proofs.YtibmbbogjkecoaaDoor.M

/- The lexer's small functions. -/
namespace Go.Proofs.YtibmbbogjkecoaaDoor.M
open Go
set_option linter.unusedSimpArgs false
set_option linter.unusedVariables false
variable {ρ : Nat → Value}

attribute [local irreducible] forceN forceZ forceB okIf roundsK valK rowAt listK

set_option maxRecDepth 100000

theorem letter_says (c : Nat) : Says ρ Tryd.prog 31 [.int .u8 (.ofNat c)] (.bool (letterB c)) := by
  refine says_run (call := call0) follows globL_ok call0_ok (arg1 rfl) ?_
  repeat' ((conv => lhs; whnf); first | ((with_reducible show valK _ _ = _); first | ((conv => lhs; arg 1; whnf); refine valK_ok ?_) | fail) | ((with_reducible show listK _ _ = _); first | ((conv => lhs; arg 1; whnf); first | refine listK_cons ?_ | refine listK_nil ?_) | fail) | ((with_reducible show forceB _ _ = _); first | refine forceB_ok ?_ | fail) | ((with_reducible show forceN _ _ = _); first | refine forceN_add ?_ | refine forceN_sub ?_ | refine forceN_suc ?_ | refine forceN_part ?_ | refine forceN_byte ?_ | refine forceN_ok ?_ | fail) | ((with_reducible show forceZ _ _ = _); first | refine forceZ_add ?_ | refine forceZ_mul (by (try simp only [maxK]); omega) ?_ | refine forceZ_sub ?_ | refine forceZ_ok ?_ | fail) | ((with_reducible show rowAt _ _ _ = _); first | refine rowAt_ok (byteRows_get (by (try simp only [maxK]); omega)) ?_ | (apply rowAt_ok; (focus assumption)) | fail) | ((with_reducible show Bool.rec (motive := fun _ => AnsT) _ _ _ = _); first | refine br_true (Nat.beq_refl _) ?_ | refine br_true (by assumption) ?_ | refine br_false (by assumption) ?_ | refine br_max (by (try simp only [maxK]); omega) ?_ | refine br_ble_t (by (try simp only [maxK]); omega) ?_ | refine br_ble_f (by (try simp only [maxK]); omega) ?_ | refine br_beq_f (by (try simp only [maxK]); omega) ?_ | refine br_true (by simp only [Bool.and_eq_true, Nat.ble_eq]; (try simp only []); omega) ?_ | (refine br_ble (fun h => ?_) (fun h => ?_) <;> (try simp only [] at h)) | (refine br_beq (fun h => ?_) (fun h => ?_) <;> (try simp only [] at h)) | refine br_split (fun h => ?_) (fun h => ?_) | fail) | fail)
  all_goals refine okIf_ok (frz_bool ?_)
  all_goals (first | (rw [Bool.eq_iff_iff]; simp only [letterB, Bool.and_eq_true, Bool.or_eq_true, Bool.not_eq_true', Nat.ble_eq, Nat.beq_eq, Bool.false_eq_true, Bool.true_eq_false, true_iff, false_iff, iff_true, iff_false, beq_false_iff, ble_false_iff] <;> omega) | (simp_all [letterB]; done) | (rw [Bool.eq_iff_iff]; simp_all [letterB] <;> omega))

theorem digit_says (c : Nat) : Says ρ Tryd.prog 33 [.int .u8 (.ofNat c)] (.bool (digitB c)) := by
  refine says_run (call := call0) follows globL_ok call0_ok (arg1 rfl) ?_
  repeat' ((conv => lhs; whnf); first | ((with_reducible show valK _ _ = _); first | ((conv => lhs; arg 1; whnf); refine valK_ok ?_) | fail) | ((with_reducible show listK _ _ = _); first | ((conv => lhs; arg 1; whnf); first | refine listK_cons ?_ | refine listK_nil ?_) | fail) | ((with_reducible show forceB _ _ = _); first | refine forceB_ok ?_ | fail) | ((with_reducible show forceN _ _ = _); first | refine forceN_add ?_ | refine forceN_sub ?_ | refine forceN_suc ?_ | refine forceN_part ?_ | refine forceN_byte ?_ | refine forceN_ok ?_ | fail) | ((with_reducible show forceZ _ _ = _); first | refine forceZ_add ?_ | refine forceZ_mul (by (try simp only [maxK]); omega) ?_ | refine forceZ_sub ?_ | refine forceZ_ok ?_ | fail) | ((with_reducible show rowAt _ _ _ = _); first | refine rowAt_ok (byteRows_get (by (try simp only [maxK]); omega)) ?_ | (apply rowAt_ok; (focus assumption)) | fail) | ((with_reducible show Bool.rec (motive := fun _ => AnsT) _ _ _ = _); first | refine br_true (Nat.beq_refl _) ?_ | refine br_true (by assumption) ?_ | refine br_false (by assumption) ?_ | refine br_max (by (try simp only [maxK]); omega) ?_ | refine br_ble_t (by (try simp only [maxK]); omega) ?_ | refine br_ble_f (by (try simp only [maxK]); omega) ?_ | refine br_beq_f (by (try simp only [maxK]); omega) ?_ | refine br_true (by simp only [Bool.and_eq_true, Nat.ble_eq]; (try simp only []); omega) ?_ | (refine br_ble (fun h => ?_) (fun h => ?_) <;> (try simp only [] at h)) | (refine br_beq (fun h => ?_) (fun h => ?_) <;> (try simp only [] at h)) | refine br_split (fun h => ?_) (fun h => ?_) | fail) | fail)
  all_goals refine okIf_ok (frz_bool ?_)
  all_goals (first | (rw [Bool.eq_iff_iff]; simp only [digitB, Bool.and_eq_true, Bool.or_eq_true, Bool.not_eq_true', Nat.ble_eq, Nat.beq_eq, Bool.false_eq_true, Bool.true_eq_false, true_iff, false_iff, iff_true, iff_false, beq_false_iff, ble_false_iff] <;> omega) | (simp_all [digitB]; done) | (rw [Bool.eq_iff_iff]; simp_all [digitB] <;> omega))

noncomputable def ovB (p : Nat → Bool) : OvT := ovF fun | [.int .u8 (.ofNat c)] => some (true, .bool (p c)) | _ => none

theorem run_says (f : FuncId) (p : Nat → Bool) (hfn : fnOK Tryd.prog f = true) (hf : ∀ c, Says ρ Tryd.prog f [.int .u8 (.ofNat c)] (.bool (p c))) (len n : Nat) (hl : len < 9223372036854775807) : Says ρ Tryd.prog 29 [.ps len n, .fn f []] (.int .i64 (.ofNat (runP p len n))) := by
  have hov : OvOK ρ Tryd.prog f (ovB p) := ov_says fun args v h => by
    split at h
    · cases h; exact hf _
    · cases h
  refine says_run (call := over f (ovB p) call0) follows globL_ok (over_ok hov call0_ok) (fun q hq => by simp at hq; rcases hq with rfl | rfl; exact .flat _ rfl; exact .fn f) ?_
  repeat' ((conv => lhs; whnf); first | ((with_reducible show valK _ _ = _); first | ((conv => lhs; arg 1; whnf); refine valK_ok ?_) | fail) | ((with_reducible show listK _ _ = _); first | ((conv => lhs; arg 1; whnf); first | refine listK_cons ?_ | refine listK_nil ?_) | fail) | ((with_reducible show forceB _ _ = _); first | refine forceB_ok ?_ | fail) | ((with_reducible show forceN _ _ = _); first | refine forceN_add ?_ | refine forceN_sub ?_ | refine forceN_suc ?_ | refine forceN_part ?_ | refine forceN_byte ?_ | refine forceN_ok ?_ | fail) | ((with_reducible show forceZ _ _ = _); first | refine forceZ_add ?_ | refine forceZ_mul (by (try simp only [maxK]); omega) ?_ | refine forceZ_sub ?_ | refine forceZ_ok ?_ | fail) | ((with_reducible show rowAt _ _ _ = _); first | refine rowAt_ok (byteRows_get (by (try simp only [maxK]); omega)) ?_ | (apply rowAt_ok; (focus assumption)) | fail) | ((with_reducible show Bool.rec (motive := fun _ => AnsT) _ _ _ = _); first | refine br_true (Nat.beq_refl _) ?_ | refine br_true (by assumption) ?_ | refine br_false (by assumption) ?_ | refine br_max (by (try simp only [maxK]); omega) ?_ | refine br_ble_t (by (try simp only [maxK]); omega) ?_ | refine br_ble_f (by (try simp only [maxK]); omega) ?_ | refine br_beq_f (by (try simp only [maxK]); omega) ?_ | refine br_true (by simp only [Bool.and_eq_true, Nat.ble_eq]; (try simp only []); omega) ?_ | (refine br_ble (fun h => ?_) (fun h => ?_) <;> (try simp only [] at h)) | (refine br_beq (fun h => ?_) (fun h => ?_) <;> (try simp only [] at h)) | refine br_split (fun h => ?_) (fun h => ?_) | fail) | fail)
  conv => lhs; whnf
  refine loop_ok (fun m tm hp nx => ∃ i, m = len - i ∧ i ≤ len ∧ runP p len n = i + runP p (len - i) (n / 256 ^ i) ∧ hp = hp0 ∧ get2 tm 0 = .ps len n ∧ get2 tm 1 = .fn f [] ∧ get2 tm 5 = .int .i64 (.ofNat i) ∧ get2 tm 255 = .un) (m := len) (by omega) ⟨0, rfl, by omega, by simp, rfl, rfl, rfl, rfl, rfl⟩ ?_
  rintro m tm hp nx ⟨i, rfl, hi, hr, rfl, e0, e1, e5, e255⟩ k hk
  (obtain ⟨y0, y1, y2, y3, y4, y5, y6, y7, y8, y9, y10, y11, y12, y13, y14, y15⟩ := tm; obtain ⟨x0, x1, x2, x3, x4, x5, x6, x7, x8, x9, x10, x11, x12, x13, x14, x15⟩ := y0; obtain ⟨x16, x17, x18, x19, x20, x21, x22, x23, x24, x25, x26, x27, x28, x29, x30, x31⟩ := y1; obtain ⟨x240, x241, x242, x243, x244, x245, x246, x247, x248, x249, x250, x251, x252, x253, x254, x255⟩ := y15)
  cases e0
  cases e1
  cases e5
  cases e255
  have hs := fun h => @runP_step p i len n h
  repeat' ((conv => lhs; whnf); first | ((with_reducible show valK _ _ = _); first | ((conv => lhs; arg 1; whnf); refine valK_ok ?_) | fail) | ((with_reducible show listK _ _ = _); first | ((conv => lhs; arg 1; whnf); first | refine listK_cons ?_ | refine listK_nil ?_) | fail) | ((with_reducible show forceB _ _ = _); first | refine forceB_ok ?_ | fail) | ((with_reducible show forceN _ _ = _); first | refine forceN_add ?_ | refine forceN_sub ?_ | refine forceN_suc ?_ | refine forceN_part ?_ | refine forceN_byte ?_ | refine forceN_ok ?_ | fail) | ((with_reducible show forceZ _ _ = _); first | refine forceZ_add ?_ | refine forceZ_mul (by (try simp only [maxK]); omega) ?_ | refine forceZ_sub ?_ | refine forceZ_ok ?_ | fail) | ((with_reducible show rowAt _ _ _ = _); first | refine rowAt_ok (byteRows_get (by (try simp only [maxK]); omega)) ?_ | (apply rowAt_ok; (focus assumption)) | fail) | ((with_reducible show Bool.rec (motive := fun _ => AnsT) _ _ _ = _); first | refine br_true (Nat.beq_refl _) ?_ | refine br_true (by assumption) ?_ | refine br_false (by assumption) ?_ | refine br_max (by (try simp only [maxK]); omega) ?_ | refine br_ble_t (by (try simp only [maxK]); omega) ?_ | refine br_ble_f (by (try simp only [maxK]); omega) ?_ | refine br_beq_f (by (try simp only [maxK]); omega) ?_ | refine br_true (by simp only [Bool.and_eq_true, Nat.ble_eq]; (try simp only []); omega) ?_ | (refine br_ble (fun h => ?_) (fun h => ?_) <;> (try simp only [] at h)) | (refine br_beq (fun h => ?_) (fun h => ?_) <;> (try simp only [] at h)) | refine br_split (fun h => ?_) (fun h => ?_) | fail) | fail)
  all_goals (conv => lhs; whnf)
  · refine hk _ _ _ _ (by omega) ⟨i + 1, rfl, by omega, ?_, rfl, rfl, rfl, rfl, rfl⟩
    rw [hr, hs (by omega), ‹p _ = true›]
  · refine okIf_ok (frz_int ?_)
    rw [hr, hs (by omega), ‹p _ = false›]
  · refine okIf_ok (frz_int ?_)
    rw [hr, show len - i = 0 by omega]
    rfl

theorem inner_says (c : Nat) : Says ρ Tryd.prog 32 [.int .u8 (.ofNat c)] (.bool (innerB c)) := by
  have h1 : OvOK ρ Tryd.prog 31 (ovB letterB) := ov_says fun args v h => by
    split at h
    · cases h; exact letter_says _
    · cases h
  have h2 : OvOK ρ Tryd.prog 33 (ovB digitB) := ov_says fun args v h => by
    split at h
    · cases h; exact digit_says _
    · cases h
  refine says_run (call := over 31 (ovB letterB) (over 33 (ovB digitB) call0)) follows globL_ok (over_ok h1 (over_ok h2 call0_ok)) (arg1 rfl) ?_
  repeat' ((conv => lhs; whnf); first | ((with_reducible show valK _ _ = _); first | ((conv => lhs; arg 1; whnf); refine valK_ok ?_) | fail) | ((with_reducible show listK _ _ = _); first | ((conv => lhs; arg 1; whnf); first | refine listK_cons ?_ | refine listK_nil ?_) | fail) | ((with_reducible show forceB _ _ = _); first | refine forceB_ok ?_ | fail) | ((with_reducible show forceN _ _ = _); first | refine forceN_add ?_ | refine forceN_sub ?_ | refine forceN_suc ?_ | refine forceN_part ?_ | refine forceN_byte ?_ | refine forceN_ok ?_ | fail) | ((with_reducible show forceZ _ _ = _); first | refine forceZ_add ?_ | refine forceZ_mul (by (try simp only [maxK]); omega) ?_ | refine forceZ_sub ?_ | refine forceZ_ok ?_ | fail) | ((with_reducible show rowAt _ _ _ = _); first | refine rowAt_ok (byteRows_get (by (try simp only [maxK]); omega)) ?_ | (apply rowAt_ok; (focus assumption)) | fail) | ((with_reducible show Bool.rec (motive := fun _ => AnsT) _ _ _ = _); first | refine br_true (Nat.beq_refl _) ?_ | refine br_true (by assumption) ?_ | refine br_false (by assumption) ?_ | refine br_max (by (try simp only [maxK]); omega) ?_ | refine br_ble_t (by (try simp only [maxK]); omega) ?_ | refine br_ble_f (by (try simp only [maxK]); omega) ?_ | refine br_beq_f (by (try simp only [maxK]); omega) ?_ | refine br_true (by simp only [Bool.and_eq_true, Nat.ble_eq]; (try simp only []); omega) ?_ | (refine br_ble (fun h => ?_) (fun h => ?_) <;> (try simp only [] at h)) | (refine br_beq (fun h => ?_) (fun h => ?_) <;> (try simp only [] at h)) | refine br_split (fun h => ?_) (fun h => ?_) | fail) | fail)
  all_goals refine okIf_ok (frz_bool ?_)
  all_goals (first | (rw [Bool.eq_iff_iff]; simp only [innerB, Bool.and_eq_true, Bool.or_eq_true, Bool.not_eq_true', Nat.ble_eq, Nat.beq_eq, Bool.false_eq_true, Bool.true_eq_false, true_iff, false_iff, iff_true, iff_false, beq_false_iff, ble_false_iff] <;> omega) | (simp_all [innerB]; done) | (rw [Bool.eq_iff_iff]; simp_all [innerB] <;> omega))

theorem line_says (c : Nat) : Says ρ Tryd.prog 30 [.int .u8 (.ofNat c)] (.bool (lineB c)) := by
  refine says_run (call := call0) follows globL_ok call0_ok (arg1 rfl) ?_
  repeat' ((conv => lhs; whnf); first | ((with_reducible show valK _ _ = _); first | ((conv => lhs; arg 1; whnf); refine valK_ok ?_) | fail) | ((with_reducible show listK _ _ = _); first | ((conv => lhs; arg 1; whnf); first | refine listK_cons ?_ | refine listK_nil ?_) | fail) | ((with_reducible show forceB _ _ = _); first | refine forceB_ok ?_ | fail) | ((with_reducible show forceN _ _ = _); first | refine forceN_add ?_ | refine forceN_sub ?_ | refine forceN_suc ?_ | refine forceN_part ?_ | refine forceN_byte ?_ | refine forceN_ok ?_ | fail) | ((with_reducible show forceZ _ _ = _); first | refine forceZ_add ?_ | refine forceZ_mul (by (try simp only [maxK]); omega) ?_ | refine forceZ_sub ?_ | refine forceZ_ok ?_ | fail) | ((with_reducible show rowAt _ _ _ = _); first | refine rowAt_ok (byteRows_get (by (try simp only [maxK]); omega)) ?_ | (apply rowAt_ok; (focus assumption)) | fail) | ((with_reducible show Bool.rec (motive := fun _ => AnsT) _ _ _ = _); first | refine br_true (Nat.beq_refl _) ?_ | refine br_true (by assumption) ?_ | refine br_false (by assumption) ?_ | refine br_max (by (try simp only [maxK]); omega) ?_ | refine br_ble_t (by (try simp only [maxK]); omega) ?_ | refine br_ble_f (by (try simp only [maxK]); omega) ?_ | refine br_beq_f (by (try simp only [maxK]); omega) ?_ | refine br_true (by simp only [Bool.and_eq_true, Nat.ble_eq]; (try simp only []); omega) ?_ | (refine br_ble (fun h => ?_) (fun h => ?_) <;> (try simp only [] at h)) | (refine br_beq (fun h => ?_) (fun h => ?_) <;> (try simp only [] at h)) | refine br_split (fun h => ?_) (fun h => ?_) | fail) | fail)
  all_goals refine okIf_ok (frz_bool ?_)
  all_goals (first | (rw [Bool.eq_iff_iff]; simp only [lineB, Bool.and_eq_true, Bool.or_eq_true, Bool.not_eq_true', Nat.ble_eq, Nat.beq_eq, Bool.false_eq_true, Bool.true_eq_false, true_iff, false_iff, iff_true, iff_false, beq_false_iff, ble_false_iff] <;> omega) | (simp_all [lineB]; done) | (rw [Bool.eq_iff_iff]; simp_all [lineB] <;> omega))

noncomputable def ovRun : OvT := ovF fun
  | [.ps len n, .fn f []] => match f with
      | 32 => some (Nat.ble len 140737488355328, .int .i64 (.ofNat (runP innerB len n)))
      | 33 => some (Nat.ble len 140737488355328, .int .i64 (.ofNat (runP digitB len n)))
      | 30 => some (Nat.ble len 140737488355328, .int .i64 (.ofNat (runP lineB len n)))
      | _ => none
  | _ => none
theorem ovRun_ok : OvOK ρ Tryd.prog 29 ovRun := ov_says fun args v h => by
  split at h
  · split at h
    · injection h with h; injection h with h1 h2; subst h2; have := Nat.le_of_ble_eq_true h1; exact run_says 32 innerB (by kernel_rfl) inner_says _ _ (by omega)
    · injection h with h; injection h with h1 h2; subst h2; have := Nat.le_of_ble_eq_true h1; exact run_says 33 digitB (by kernel_rfl) digit_says _ _ (by omega)
    · injection h with h; injection h with h1 h2; subst h2; have := Nat.le_of_ble_eq_true h1; exact run_says 30 lineB (by kernel_rfl) line_says _ _ (by omega)
    · cases h
  · cases h

theorem ovB_ok {f : FuncId} {p : Nat → Bool} (h : ∀ c, Says ρ Tryd.prog f [.int .u8 (.ofNat c)] (.bool (p c))) : OvOK ρ Tryd.prog f (ovB p) := ov_says fun args v g => by
  split at g
  · cases g; exact h _
  · cases g

/-- Is it a word? -/
def wordM (len n : Nat) : Bool := Nat.ble 1 len && Nat.ble len 16 && letterB (n % 256) && Nat.beq (runP innerB len n) len

theorem word_says (len n : Nat) (hl : len ≤ 140737488355328) : Says ρ Tryd.prog 62 [.ps len n] (.bool (wordM len n)) := by
  refine says_run (call := over 31 (ovB letterB) (over 29 ovRun call0)) follows globL_ok (over_ok (ovB_ok letter_says) (over_ok ovRun_ok call0_ok)) (arg1 rfl) ?_
  repeat' ((conv => lhs; whnf); first | ((with_reducible show valK _ _ = _); first | ((conv => lhs; arg 1; whnf); refine valK_ok ?_) | fail) | ((with_reducible show listK _ _ = _); first | ((conv => lhs; arg 1; whnf); first | refine listK_cons ?_ | refine listK_nil ?_) | fail) | ((with_reducible show forceB _ _ = _); first | refine forceB_ok ?_ | fail) | ((with_reducible show forceN _ _ = _); first | refine forceN_add ?_ | refine forceN_sub ?_ | refine forceN_suc ?_ | refine forceN_part ?_ | refine forceN_byte ?_ | refine forceN_ok ?_ | fail) | ((with_reducible show forceZ _ _ = _); first | refine forceZ_add ?_ | refine forceZ_mul (by (try simp only [maxK]); omega) ?_ | refine forceZ_sub ?_ | refine forceZ_ok ?_ | fail) | ((with_reducible show rowAt _ _ _ = _); first | refine rowAt_ok (byteRows_get (by (try simp only [maxK]); omega)) ?_ | (apply rowAt_ok; (focus assumption)) | fail) | ((with_reducible show Bool.rec (motive := fun _ => AnsT) _ _ _ = _); first | refine br_true (Nat.beq_refl _) ?_ | refine br_true (by assumption) ?_ | refine br_false (by assumption) ?_ | refine br_max (by (try simp only [maxK]); omega) ?_ | refine br_ble_t (by (try simp only [maxK]); omega) ?_ | refine br_ble_f (by (try simp only [maxK]); omega) ?_ | refine br_beq_f (by (try simp only [maxK]); omega) ?_ | refine br_true (by simp only [Bool.and_eq_true, Nat.ble_eq]; (try simp only []); omega) ?_ | (refine br_ble (fun h => ?_) (fun h => ?_) <;> (try simp only [] at h)) | (refine br_beq (fun h => ?_) (fun h => ?_) <;> (try simp only [] at h)) | refine br_split (fun h => ?_) (fun h => ?_) | fail) | fail)
  all_goals refine okIf_ok (frz_bool ?_)
  all_goals (try simp only [Nat.pow_zero, Nat.div_one] at *)
  all_goals (first | (rw [Bool.eq_iff_iff]; simp only [wordM, Bool.and_eq_true, Bool.or_eq_true, Bool.not_eq_true', Nat.ble_eq, Nat.beq_eq, Bool.false_eq_true, Bool.true_eq_false, true_iff, false_iff, iff_true, iff_false, beq_false_iff, ble_false_iff] <;> omega) | (simp_all [wordM]; done) | (rw [Bool.eq_iff_iff]; simp_all [wordM] <;> omega))

/-- Over so many bytes of one line. -/
theorem skip_says (len n line col k : Nat) (hk : k ≤ len) (hl : len ≤ 140737488355328) (hc : col + k ≤ 9223372036854775807) :
    SaysM ρ Tryd.prog 28 (fun _ _ => False) [.ps len n, .int .i64 (.ofNat line), .int .i64 (.ofNat col)] [.int .i64 (.ofNat k)] (.tup []) [.ps (len - k) (n / 256 ^ k), .int .i64 (.ofNat line), .int .i64 (.ofNat (col + k))] := by
  refine .wf (i := 0) rfl fun hn => ?_
  have e : (fun _ _ => False : Nat → Nat → Prop) = inL [] 0 := by rw [inL_nil]
  rw [e]
  refine saysM_run (call := call0) follows globL_ok call0_ok (fun q hq => by simp at hq; rcases hq with rfl | rfl | rfl <;> rfl) (arg1 rfl) ?_
  repeat' ((conv => lhs; whnf); first | ((with_reducible show valK _ _ = _); first | ((conv => lhs; arg 1; whnf); refine valK_ok ?_) | fail) | ((with_reducible show listK _ _ = _); first | ((conv => lhs; arg 1; whnf); first | refine listK_cons ?_ | refine listK_nil ?_) | fail) | ((with_reducible show forceB _ _ = _); first | refine forceB_ok ?_ | fail) | ((with_reducible show forceN _ _ = _); first | refine forceN_add ?_ | refine forceN_sub ?_ | refine forceN_suc ?_ | refine forceN_part ?_ | refine forceN_byte ?_ | refine forceN_ok ?_ | fail) | ((with_reducible show forceZ _ _ = _); first | refine forceZ_add ?_ | refine forceZ_mul (by (try simp only [maxK]); omega) ?_ | refine forceZ_sub ?_ | refine forceZ_ok ?_ | fail) | ((with_reducible show rowAt _ _ _ = _); first | refine rowAt_ok (byteRows_get (by (try simp only [maxK]); omega)) ?_ | (apply rowAt_ok; (focus assumption)) | fail) | ((with_reducible show Bool.rec (motive := fun _ => AnsT) _ _ _ = _); first | refine br_true (Nat.beq_refl _) ?_ | refine br_true (by assumption) ?_ | refine br_false (by assumption) ?_ | refine br_max (by (try simp only [maxK]); omega) ?_ | refine br_ble_t (by (try simp only [maxK]); omega) ?_ | refine br_ble_f (by (try simp only [maxK]); omega) ?_ | refine br_beq_f (by (try simp only [maxK]); omega) ?_ | refine br_true (by simp only [Bool.and_eq_true, Nat.ble_eq]; (try simp only []); omega) ?_ | (refine br_ble (fun h => ?_) (fun h => ?_) <;> (try simp only [] at h)) | (refine br_beq (fun h => ?_) (fun h => ?_) <;> (try simp only [] at h)) | refine br_split (fun h => ?_) (fun h => ?_) | fail) | fail)
  conv => lhs; whnf
  refine okIf_ok ⟨frz_nil, frz_row rfl ?_ (by simp [V.flat, V.one])⟩
  rw [part_eq hn hk]

end Go.Proofs.YtibmbbogjkecoaaDoor.M

/- The lexer's reader. -/
namespace Go.Proofs.YtibmbbogjkecoaaDoor.M
open Go
set_option linter.unusedSimpArgs false
set_option linter.unusedVariables false
variable {ρ : Nat → Value}

attribute [local irreducible] forceN forceZ forceB okIf roundsK valK rowAt listK
set_option maxRecDepth 100000

noncomputable def ovSkip : OvT := ovM fun row args => match row, args with
  | [.ps len n, .int .i64 (.ofNat line), .int .i64 (.ofNat col)], [.int .i64 (.ofNat k)] =>
    some (Nat.ble k len && Nat.ble len 140737488355328 && Nat.ble (col + k) 9223372036854775807, .tup [], [.ps (len - k) (n / 256 ^ k), .int .i64 (.ofNat line), .int .i64 (.ofNat (col + k))])
  | _, _ => none
theorem ovSkip_ok : OvOK ρ Tryd.prog 28 ovSkip := ov_saysM fun row args v row' h => by
  split at h
  · injection h with h
    injection h with h1 h2
    injection h2 with h2 h3
    subst h2 h3
    simp only [Bool.and_eq_true, Nat.ble_eq] at h1
    exact skip_says _ _ _ _ _ h1.1.1 h1.1.2 h1.2
  · cases h

theorem blanks_says (len n line col : Nat) (hl : len ≤ 140737488355328) (hline : line ≤ 140737488355328) (hcol : col ≤ 140737488355328) (R : Nat × Nat × Nat × Nat) (hR : blanksF len len n line col = R) :
    SaysM ρ Tryd.prog 21 (fun _ _ => False) [.ps len n, .int .i64 (.ofNat line), .int .i64 (.ofNat col)] [] (.tup []) [.ps R.1 R.2.1, .int .i64 (.ofNat R.2.2.1), .int .i64 (.ofNat R.2.2.2)] := by
  refine .wf (i := 0) rfl fun hn => ?_
  rw [show (fun _ _ => False : Nat → Nat → Prop) = inL [] 0 by rw [inL_nil]]
  refine saysM_run (call := over 29 ovRun (over 28 ovSkip call0)) follows globL_ok (over_ok ovRun_ok (over_ok ovSkip_ok call0_ok)) (fun q hq => by simp at hq; rcases hq with rfl | rfl | rfl <;> rfl) (fun q hq => by cases hq) ?_
  repeat' ((conv => lhs; whnf); first | ((with_reducible show valK _ _ = _); first | ((conv => lhs; arg 1; whnf); refine valK_ok ?_) | fail) | ((with_reducible show listK _ _ = _); first | ((conv => lhs; arg 1; whnf); first | refine listK_cons ?_ | refine listK_nil ?_) | fail) | ((with_reducible show forceB _ _ = _); first | refine forceB_ok ?_ | fail) | ((with_reducible show forceN _ _ = _); first | refine forceN_add ?_ | refine forceN_sub ?_ | refine forceN_suc ?_ | refine forceN_part ?_ | refine forceN_byte ?_ | refine forceN_ok ?_ | fail) | ((with_reducible show forceZ _ _ = _); first | refine forceZ_add ?_ | refine forceZ_mul (by (try simp only [maxK]); omega) ?_ | refine forceZ_sub ?_ | refine forceZ_ok ?_ | fail) | ((with_reducible show rowAt _ _ _ = _); first | refine rowAt_ok (byteRows_get (by (try simp only [maxK]); omega)) ?_ | (apply rowAt_ok; (focus assumption)) | fail) | ((with_reducible show Bool.rec (motive := fun _ => AnsT) _ _ _ = _); first | refine br_true (Nat.beq_refl _) ?_ | refine br_true (by assumption) ?_ | refine br_false (by assumption) ?_ | refine br_max (by (try simp only [maxK]); omega) ?_ | refine br_ble_t (by (try simp only [maxK]); omega) ?_ | refine br_ble_f (by (try simp only [maxK]); omega) ?_ | refine br_beq_f (by (try simp only [maxK]); omega) ?_ | refine br_true (by simp only [Bool.and_eq_true, Nat.ble_eq]; (try simp only []); omega) ?_ | (refine br_ble (fun h => ?_) (fun h => ?_) <;> (try simp only [] at h)) | (refine br_beq (fun h => ?_) (fun h => ?_) <;> (try simp only [] at h)) | refine br_split (fun h => ?_) (fun h => ?_) | fail) | fail)
  conv => lhs; whnf
  refine loop_ok (fun m tm hp nx => ∃ l x li co, hp = hpR [.ps l x, .int .i64 (.ofNat li), .int .i64 (.ofNat co)] ∧ x < 256 ^ l ∧ l ≤ m ∧ l ≤ len ∧ li + l ≤ 281474976710656 ∧ co + l ≤ 281474976710656 ∧ blanksF m l x li co = R ∧ get2 tm 0 = .ptr 0 0 0 ∧ get2 tm 255 = .un) (m := len) (by omega) ⟨len, n, line, col, rfl, hn, by omega, by omega, by omega, by omega, hR, rfl, rfl⟩ ?_
  rintro m tm hp nx ⟨l, x, li, co, rfl, hx, hm, hlen, hli, hco, hB, e0, e255⟩ k hk
  (obtain ⟨y0, y1, y2, y3, y4, y5, y6, y7, y8, y9, y10, y11, y12, y13, y14, y15⟩ := tm; obtain ⟨x0, x1, x2, x3, x4, x5, x6, x7, x8, x9, x10, x11, x12, x13, x14, x15⟩ := y0; obtain ⟨x16, x17, x18, x19, x20, x21, x22, x23, x24, x25, x26, x27, x28, x29, x30, x31⟩ := y1; obtain ⟨x32, x33, x34, x35, x36, x37, x38, x39, x40, x41, x42, x43, x44, x45, x46, x47⟩ := y2; obtain ⟨x240, x241, x242, x243, x244, x245, x246, x247, x248, x249, x250, x251, x252, x253, x254, x255⟩ := y15)
  cases e0
  cases e255
  have hrl := runP_le lineB l x
  repeat' ((conv => lhs; whnf); first | ((with_reducible show valK _ _ = _); first | ((conv => lhs; arg 1; whnf); refine valK_ok ?_) | fail) | ((with_reducible show listK _ _ = _); first | ((conv => lhs; arg 1; whnf); first | refine listK_cons ?_ | refine listK_nil ?_) | fail) | ((with_reducible show forceB _ _ = _); first | refine forceB_ok ?_ | fail) | ((with_reducible show forceN _ _ = _); first | refine forceN_add ?_ | refine forceN_sub ?_ | refine forceN_suc ?_ | refine forceN_part ?_ | refine forceN_byte ?_ | refine forceN_ok ?_ | fail) | ((with_reducible show forceZ _ _ = _); first | refine forceZ_add ?_ | refine forceZ_mul (by (try simp only [maxK]); omega) ?_ | refine forceZ_sub ?_ | refine forceZ_ok ?_ | fail) | ((with_reducible show rowAt _ _ _ = _); first | refine rowAt_ok (byteRows_get (by (try simp only [maxK]); omega)) ?_ | (apply rowAt_ok; (focus assumption)) | fail) | ((with_reducible show Bool.rec (motive := fun _ => AnsT) _ _ _ = _); first | refine br_true (Nat.beq_refl _) ?_ | refine br_true (by assumption) ?_ | refine br_false (by assumption) ?_ | refine br_max (by (try simp only [maxK]); omega) ?_ | refine br_ble_t (by (try simp only [maxK]); omega) ?_ | refine br_ble_f (by (try simp only [maxK]); omega) ?_ | refine br_beq_f (by (try simp only [maxK]); omega) ?_ | refine br_true (by simp only [Bool.and_eq_true, Nat.ble_eq]; (try simp only []); omega) ?_ | (refine br_ble (fun h => ?_) (fun h => ?_) <;> (try simp only [] at h)) | (refine br_beq (fun h => ?_) (fun h => ?_) <;> (try simp only [] at h)) | refine br_split (fun h => ?_) (fun h => ?_) | fail) | fail)
  all_goals (try (conv => lhs; whnf))
  all_goals (try simp only [byte0] at *)
  all_goals (try have hl1 : 1 ≤ l := ‹Nat.succ 0 ≤ l›)
  · obtain ⟨m, rfl⟩ : ∃ j, m = j + 1 := ⟨m - 1, by omega⟩
    rw [blanks_blank hl1 (.inl ‹_›), ← Nat.pow_one 256] at hB
    exact hk m _ _ _ (by omega) ⟨l - 1, x / 256 ^ 1, li, co + 1, rfl, part_lt hx hl1, by omega, by omega, by omega, by omega, hB, rfl, rfl⟩
  · obtain ⟨m, rfl⟩ : ∃ j, m = j + 1 := ⟨m - 1, by omega⟩
    rw [blanks_blank hl1 (.inr ‹_›), ← Nat.pow_one 256] at hB
    exact hk m _ _ _ (by omega) ⟨l - 1, x / 256 ^ 1, li, co + 1, rfl, part_lt hx hl1, by omega, by omega, by omega, by omega, hB, rfl, rfl⟩
  · obtain ⟨m, rfl⟩ : ∃ j, m = j + 1 := ⟨m - 1, by omega⟩
    rw [blanks_line hl1 ‹_›, ← Nat.pow_one 256] at hB
    refine hk m _ _ _ (by omega) ⟨l - 1, x / 256 ^ 1, li + 1, 1, ?_, part_lt hx hl1, by omega, by omega, by omega, by omega, hB, rfl, rfl⟩
    rw [part_eq hx hl1]
    rfl
  · obtain ⟨m, rfl⟩ : ∃ j, m = j + 1 := ⟨m - 1, by omega⟩
    rw [blanks_word hl1 ‹_›] at hB
    have hpos := runP_pos (p := lineB) hl1 (by rw [‹x % 256 = 35›]; rfl)
    exact hk m _ _ _ (by omega) ⟨l - runP lineB l x, x / 256 ^ runP lineB l x, li, co + runP lineB l x, rfl, part_lt hx hrl, by omega, by omega, by omega, by omega, hB, rfl, rfl⟩
  · rw [blanks_end (.inr ⟨‹_›, ‹_›, ‹_›, ‹_›⟩)] at hB
    subst hB
    exact okIf_ok ⟨frz_nil, frz_row rfl rfl (by simp [V.flat, V.one])⟩
  · rw [blanks_end (.inl (by omega))] at hB
    subst hB
    exact okIf_ok ⟨frz_nil, frz_row rfl rfl (by simp [V.flat, V.one])⟩

end Go.Proofs.YtibmbbogjkecoaaDoor.M

/- Numbers, signs. -/
namespace Go.Proofs.YtibmbbogjkecoaaDoor.M
open Go
set_option linter.unusedSimpArgs false
set_option linter.unusedVariables false
variable {ρ : Nat → Value}

/-! ### Where a byte stands in a text -/

theorem qq_indexByte {P : Program} {σ : St} {C : CellP} {o : Oper} {x y : Operand} {ats : Array TypeId} {f : FuncId} {fn : Func} {len n c : Nat} (ho : o.op = .call { callee := .value (.func f), args := #[x, y], argTypes := ats })
    (hf : P.funcs[f]? = some fn) (hname : (fn.name == "runtime.NumGoroutine") = false) (hb : fn.body.isNone = true) (hn : Extern.findNext fn = none) (he : Extern.find fn = some Extern.BytealgIndexByte.indexByte)
    (hx : evalV σ x = .ps len n) (hy : evalV σ y = .int .u8 (.ofNat c)) : QQ ρ P σ C o (.int .i64 (firstIdx (unpack len n) c.toUInt8)) := by
  intro X T a w h
  have e1 := (rep_ps (ev_rep h hx)).1
  have e2 := rep_int (ev_rep h hy)
  refine ⟨_, .pure (.int _ _), fun w' hw hsm => ?_⟩
  have hr := run_callFunc_indexByte (P := P) hf hname hb hn he #[.string (unpack len n), .int .u8 (.ofNat c)] w'
  rw [run_indexByte_string] at hr
  have e3 : a.eval (.func f) = Value.func (Fn.func f) #[] #[] := rfl
  have hr' : (callFunc f #[.string (unpack len n), .int .u8 (c : Int)]).run P w' = .ok (.value (.int .i64 (firstIdx (unpack len n) c.toUInt8))) w' := by
    have h3 : (Int.ofNat c).toNat.toUInt8 = c.toUInt8 := rfl
    rw [h3] at hr
    exact hr
  simp [execOp, ho, resolve, e1, e2, e3, Deferred.ofValue, invoke, hr']

attribute [local irreducible] QC QS QFin in
theorem indexByte46 (len n c : Nat) : Says ρ Tryd.prog 40 [.ps len n, .int .u8 (.ofNat c)] (.int .i64 (firstIdx (unpack len n) c.toUInt8)) := by
  intro objs next forb
  refine qcalls_body (fun _ => false) Tryd.func40 rfl ?_
  repeat' first
    | refine q_seq ?_
    | refine q_region ?_
    | refine qs_quiet rfl (qq_move (.inl rfl)) (fun t ht => by cases ht; exact of_decide_eq_true rfl) ?_
    | refine qs_quiet rfl (qq_move (.inr rfl)) (fun t ht => by cases ht; exact of_decide_eq_true rfl) ?_
    | refine qs_quiet rfl (qq_indexByte rfl Tryd.func49 (by kernel_rfl) (by kernel_rfl) (by kernel_rfl) (by kernel_rfl) rfl rfl) (fun t ht => by cases ht; exact of_decide_eq_true rfl) ?_
    | refine qs_done ?_
    | refine q_skip ?_
    | refine q_ret ?_
    | refine fin_tmp rfl rfl rfl ?_
  exact ⟨rfl, rfl, rfl⟩

attribute [local irreducible] forceN forceZ forceB okIf roundsK valK rowAt listK
set_option maxRecDepth 100000

def signsL : Nat := 18
def signsN : Nat := packL [40, 41, 123, 125, 91, 93, 44, 59, 58, 61, 46, 43, 45, 42, 60, 94, 33, 63]
theorem sign_idx : ∀ c, c < 256 → (decide (0 ≤ firstIdx (unpack signsL signsN) c.toUInt8) == signB c) = true := by decide +kernel

theorem indexByte39 (len n c : Nat) : Says ρ Tryd.prog 35 [.ps len n, .int .u8 (.ofNat c)] (.int .i64 (firstIdx (unpack len n) c.toUInt8)) := by
  have hov : OvOK ρ Tryd.prog 40 (ovF fun | [.ps len n, .int .u8 (.ofNat c)] => some (true, .int .i64 (firstIdx (unpack len n) c.toUInt8)) | _ => none) := ov_says fun args v h => by
    split at h
    · cases h; exact indexByte46 _ _ _
    · cases h
  refine says_run (call := over 40 _ call0) follows globL_ok (over_ok hov call0_ok) (fun q hq => by simp at hq; rcases hq with rfl | rfl <;> exact .flat _ rfl) ?_
  repeat' ((conv => lhs; whnf); first | ((with_reducible show valK _ _ = _); first | ((conv => lhs; arg 1; whnf); refine valK_ok ?_) | fail) | ((with_reducible show listK _ _ = _); first | ((conv => lhs; arg 1; whnf); first | refine listK_cons ?_ | refine listK_nil ?_) | fail) | ((with_reducible show forceB _ _ = _); first | refine forceB_ok ?_ | fail) | ((with_reducible show forceN _ _ = _); first | refine forceN_add ?_ | refine forceN_sub ?_ | refine forceN_suc ?_ | refine forceN_part ?_ | refine forceN_byte ?_ | refine forceN_ok ?_ | fail) | ((with_reducible show forceZ _ _ = _); first | refine forceZ_add ?_ | refine forceZ_mul (by (try simp only [maxK]); omega) ?_ | refine forceZ_sub ?_ | refine forceZ_ok ?_ | fail) | ((with_reducible show rowAt _ _ _ = _); first | refine rowAt_ok (byteRows_get (by (try simp only [maxK]); omega)) ?_ | (apply rowAt_ok; (focus assumption)) | fail) | ((with_reducible show Bool.rec (motive := fun _ => AnsT) _ _ _ = _); first | refine br_true (Nat.beq_refl _) ?_ | refine br_true (by assumption) ?_ | refine br_false (by assumption) ?_ | refine br_max (by (try simp only [maxK]); omega) ?_ | refine br_ble_t (by (try simp only [maxK]); omega) ?_ | refine br_ble_f (by (try simp only [maxK]); omega) ?_ | refine br_beq_f (by (try simp only [maxK]); omega) ?_ | refine br_true (by simp only [Bool.and_eq_true, Nat.ble_eq]; (try simp only []); omega) ?_ | (refine br_ble (fun h => ?_) (fun h => ?_) <;> (try simp only [] at h)) | (refine br_beq (fun h => ?_) (fun h => ?_) <;> (try simp only [] at h)) | refine br_split (fun h => ?_) (fun h => ?_) | fail) | fail)
  all_goals exact okIf_ok (frz_int rfl)

/-- Of the signs: whether, and if so where. -/
noncomputable def ovIdx : OvT := fun args _ hp nx kr _ => match args with
  | [.ps l n, .int .u8 (.ofNat c)] => must (Nat.beq l signsL) (must (Nat.beq n signsN) (must (Nat.ble c 255) (boolK (signB c) (kr (.int .i64 (.ofNat (firstIdx (unpack signsL signsN) c.toUInt8).toNat)) hp nx) (kr (.int .i64 (.negSucc 0)) hp nx))))
  | _ => .err 1
theorem ovIdx_ok : OvOK ρ Tryd.prog 35 ovIdx := by
  intro args forb hp nx kr kp h
  unfold ovIdx at h
  split at h
  · rename_i l n c
    obtain ⟨h1, g1⟩ := must_inv h
    obtain ⟨h2, g2⟩ := must_inv g1
    obtain ⟨h3, g3⟩ := must_inv g2
    clear h g1 g2
    replace h1 := Nat.eq_of_beq_eq_true h1
    replace h2 := Nat.eq_of_beq_eq_true h2
    replace h3 := Nat.le_of_ble_eq_true h3
    subst h1 h2
    refine (indexByte39 signsL signsN c (absO hp) nx (inL forb)).mono ?_
    rintro o O m ⟨e1, e2, e3⟩
    subst e1 e2 e3
    have hs := sign_idx c (by omega)
    simp only [beq_iff_eq] at hs
    refine ⟨hp, rfl, ?_⟩
    rcases boolK_inv g3 with ⟨g, h⟩ | ⟨g, h⟩
    · rw [g] at hs
      have := of_decide_eq_true hs
      rw [show firstIdx (unpack signsL signsN) c.toUInt8 = Int.ofNat (firstIdx (unpack signsL signsN) c.toUInt8).toNat by
        show _ = (((firstIdx (unpack signsL signsN) c.toUInt8).toNat : Nat) : Int); omega]
      exact h
    · rw [g] at hs
      have h0 := of_decide_eq_false hs
      have : firstIdx (unpack signsL signsN) c.toUInt8 = -1 := by
        unfold firstIdx at h0 ⊢
        split
        · rename_i i e; rw [e] at h0; simp at h0
        · rfl
      rw [this]
      exact h
  · exact Ans.no h

/-! ### Numbers -/

theorem atoi44 (len n : Nat) (h1 : 1 ≤ len) (h9 : len ≤ 9) (hd : runP digitB len n = len) : Says ρ Tryd.prog 38 [.ps len n] (.tup [.int .i64 (.ofNat (numP len n 0)), .sc .nilIface]) := by
  refine says_run (call := call0) follows globL_ok call0_ok (arg1 rfl) ?_
  have hd0 := runP_all hd h1
  have hdig : ∀ i, i < len → 48 ≤ n / 256 ^ i % 256 ∧ n / 256 ^ i % 256 ≤ 57 := fun i hi => by
    have := runP_all hd hi
    simp only [digitB, Bool.and_eq_true, Nat.ble_eq] at this
    exact this
  have hdig0 := hdig 0 h1
  repeat' ((conv => lhs; whnf); first | ((with_reducible show valK _ _ = _); first | ((conv => lhs; arg 1; whnf); refine valK_ok ?_) | fail) | ((with_reducible show listK _ _ = _); first | ((conv => lhs; arg 1; whnf); first | refine listK_cons ?_ | refine listK_nil ?_) | fail) | ((with_reducible show forceB _ _ = _); first | refine forceB_ok ?_ | fail) | ((with_reducible show forceN _ _ = _); first | refine forceN_add ?_ | refine forceN_sub ?_ | refine forceN_suc ?_ | refine forceN_part ?_ | refine forceN_byte ?_ | refine forceN_ok ?_ | fail) | ((with_reducible show forceZ _ _ = _); first | refine forceZ_add ?_ | refine forceZ_mul (by (try simp only [maxK]); omega) ?_ | refine forceZ_sub ?_ | refine forceZ_ok ?_ | fail) | ((with_reducible show rowAt _ _ _ = _); first | refine rowAt_ok (byteRows_get (by (try simp only [maxK]); omega)) ?_ | (apply rowAt_ok; (focus assumption)) | fail) | ((with_reducible show Bool.rec (motive := fun _ => AnsT) _ _ _ = _); first | refine br_true (Nat.beq_refl _) ?_ | refine br_true (by assumption) ?_ | refine br_false (by assumption) ?_ | refine br_max (by (try simp only [maxK]); omega) ?_ | refine br_ble_t (by (try simp only [maxK]); omega) ?_ | refine br_ble_f (by (try simp only [maxK]); omega) ?_ | refine br_beq_f (by (try simp only [maxK]); omega) ?_ | refine br_true (by simp only [Bool.and_eq_true, Nat.ble_eq]; (try simp only []); omega) ?_ | (refine br_ble (fun h => ?_) (fun h => ?_) <;> (try simp only [] at h)) | (refine br_beq (fun h => ?_) (fun h => ?_) <;> (try simp only [] at h)) | refine br_split (fun h => ?_) (fun h => ?_) | fail) | fail)
  conv => lhs; whnf
  refine loop_ok (fun m tm hp nx => ∃ i a, m = len - i ∧ i ≤ len ∧ a < 10 ^ i ∧ hp = hp0 ∧ numP len n 0 = numP (len - i) (n / 256 ^ i) a ∧ get2 tm 0 = .ps len n ∧ get2 tm 5 = .ps len n ∧ get2 tm 6 = .int .i64 (.ofNat a) ∧ get2 tm 47 = .ro 1 (byteRows len n) ∧ get2 tm 48 = .int .i64 (.ofNat (byteRows len n).length) ∧ get2 tm 49 = .int .i64 (.ofNat i) ∧ get2 tm 255 = .un) (m := len) (by omega)
    ⟨0, 0, rfl, by omega, by simp, rfl, by simp, rfl, rfl, rfl, rfl, rfl, rfl, rfl⟩ ?_
  rintro m tm hp nx ⟨i, a, rfl, hi, ha, rfl, hv, e0, e5, e6, e47, e48, e49, e255⟩ k hk
  (obtain ⟨y0, y1, y2, y3, y4, y5, y6, y7, y8, y9, y10, y11, y12, y13, y14, y15⟩ := tm; obtain ⟨x0, x1, x2, x3, x4, x5, x6, x7, x8, x9, x10, x11, x12, x13, x14, x15⟩ := y0; obtain ⟨x16, x17, x18, x19, x20, x21, x22, x23, x24, x25, x26, x27, x28, x29, x30, x31⟩ := y1; obtain ⟨x32, x33, x34, x35, x36, x37, x38, x39, x40, x41, x42, x43, x44, x45, x46, x47⟩ := y2; obtain ⟨x48, x49, x50, x51, x52, x53, x54, x55, x56, x57, x58, x59, x60, x61, x62, x63⟩ := y3; obtain ⟨x64, x65, x66, x67, x68, x69, x70, x71, x72, x73, x74, x75, x76, x77, x78, x79⟩ := y4; obtain ⟨x240, x241, x242, x243, x244, x245, x246, x247, x248, x249, x250, x251, x252, x253, x254, x255⟩ := y15)
  cases e0
  cases e5
  cases e6
  cases e47
  cases e48
  cases e49
  cases e255
  have hpow : 10 ^ i ≤ 10 ^ 9 := Nat.pow_le_pow_right (by omega) (by omega)
  have hbl := byteRows_length len n
  have hdi := hdig i
  have hst := fun h => @numP_step i len n a h
  by_cases hlt : i < len
  · have hdi := hdi hlt
    have hst := hst hlt
    clear hdig
    repeat' ((conv => lhs; whnf); first | ((with_reducible show valK _ _ = _); first | ((conv => lhs; arg 1; whnf); refine valK_ok ?_) | fail) | ((with_reducible show listK _ _ = _); first | ((conv => lhs; arg 1; whnf); first | refine listK_cons ?_ | refine listK_nil ?_) | fail) | ((with_reducible show forceB _ _ = _); first | refine forceB_ok ?_ | fail) | ((with_reducible show forceN _ _ = _); first | refine forceN_add ?_ | refine forceN_sub ?_ | refine forceN_suc ?_ | refine forceN_part ?_ | refine forceN_byte ?_ | refine forceN_ok ?_ | fail) | ((with_reducible show forceZ _ _ = _); first | refine forceZ_add ?_ | refine forceZ_mul (by (try simp only [maxK]); omega) ?_ | refine forceZ_sub ?_ | refine forceZ_ok ?_ | fail) | ((with_reducible show rowAt _ _ _ = _); first | refine rowAt_ok (byteRows_get (by (try simp only [maxK]); omega)) ?_ | (apply rowAt_ok; (focus assumption)) | fail) | ((with_reducible show Bool.rec (motive := fun _ => AnsT) _ _ _ = _); first | refine br_true (Nat.beq_refl _) ?_ | refine br_true (by assumption) ?_ | refine br_false (by assumption) ?_ | refine br_max (by (try simp only [maxK]); omega) ?_ | refine br_ble_t (by (try simp only [maxK]); omega) ?_ | refine br_ble_f (by (try simp only [maxK]); omega) ?_ | refine br_beq_f (by (try simp only [maxK]); omega) ?_ | refine br_true (by simp only [Bool.and_eq_true, Nat.ble_eq]; (try simp only []); omega) ?_ | (refine br_ble (fun h => ?_) (fun h => ?_) <;> (try simp only [] at h)) | (refine br_beq (fun h => ?_) (fun h => ?_) <;> (try simp only [] at h)) | refine br_split (fun h => ?_) (fun h => ?_) | fail) | fail)
    conv => lhs; whnf
    refine hk _ _ _ _ (by omega) ⟨i + 1, _, rfl, by omega, ?_, rfl, hv.trans hst, rfl, rfl, rfl, rfl, rfl, rfl, rfl⟩
    rw [Nat.pow_succ]
    omega
  · repeat' ((conv => lhs; whnf); first | ((with_reducible show valK _ _ = _); first | ((conv => lhs; arg 1; whnf); refine valK_ok ?_) | fail) | ((with_reducible show listK _ _ = _); first | ((conv => lhs; arg 1; whnf); first | refine listK_cons ?_ | refine listK_nil ?_) | fail) | ((with_reducible show forceB _ _ = _); first | refine forceB_ok ?_ | fail) | ((with_reducible show forceN _ _ = _); first | refine forceN_add ?_ | refine forceN_sub ?_ | refine forceN_suc ?_ | refine forceN_part ?_ | refine forceN_byte ?_ | refine forceN_ok ?_ | fail) | ((with_reducible show forceZ _ _ = _); first | refine forceZ_add ?_ | refine forceZ_mul (by (try simp only [maxK]); omega) ?_ | refine forceZ_sub ?_ | refine forceZ_ok ?_ | fail) | ((with_reducible show rowAt _ _ _ = _); first | refine rowAt_ok (byteRows_get (by (try simp only [maxK]); omega)) ?_ | (apply rowAt_ok; (focus assumption)) | fail) | ((with_reducible show Bool.rec (motive := fun _ => AnsT) _ _ _ = _); first | refine br_true (Nat.beq_refl _) ?_ | refine br_true (by assumption) ?_ | refine br_false (by assumption) ?_ | refine br_max (by (try simp only [maxK]); omega) ?_ | refine br_ble_t (by (try simp only [maxK]); omega) ?_ | refine br_ble_f (by (try simp only [maxK]); omega) ?_ | refine br_beq_f (by (try simp only [maxK]); omega) ?_ | refine br_true (by simp only [Bool.and_eq_true, Nat.ble_eq]; (try simp only []); omega) ?_ | (refine br_ble (fun h => ?_) (fun h => ?_) <;> (try simp only [] at h)) | (refine br_beq (fun h => ?_) (fun h => ?_) <;> (try simp only [] at h)) | refine br_split (fun h => ?_) (fun h => ?_) | fail) | fail)
    refine okIf_ok (frz_cons (frz_int ?_) (frz_cons (.flat _ rfl) frz_nil))
    rw [hv, show len - i = 0 by omega]
    rfl

theorem atoi (len n : Nat) (h1 : 1 ≤ len) (h9 : len ≤ 9) (hd : runP digitB len n = len) : Says ρ Tryd.prog 34 [.ps len n] (.tup [.int .i64 (.ofNat (numP len n 0)), .sc .nilIface]) := by
  have hov : OvOK ρ Tryd.prog 38 (ovF fun | [.ps len n] => some (Nat.ble 1 len && Nat.ble len 9 && Nat.beq (runP digitB len n) len, .tup [.int .i64 (.ofNat (numP len n 0)), .sc .nilIface]) | _ => none) := ov_says fun args v h => by
    split at h
    · injection h with h
      injection h with g1 g2
      subst g2
      simp only [Bool.and_eq_true, Nat.ble_eq, Nat.beq_eq] at g1
      exact atoi44 _ _ g1.1.1 g1.1.2 g1.2
    · cases h
  have hc : (Nat.ble 1 len && Nat.ble len 9 && Nat.beq (runP digitB len n) len) = true := by simp only [Bool.and_eq_true, Nat.ble_eq, Nat.beq_eq]; exact ⟨⟨h1, h9⟩, hd⟩
  refine says_run (call := over 38 _ call0) follows globL_ok (over_ok hov call0_ok) (arg1 rfl) ?_
  repeat' ((conv => lhs; whnf); first | ((with_reducible show valK _ _ = _); first | ((conv => lhs; arg 1; whnf); refine valK_ok ?_) | fail) | ((with_reducible show listK _ _ = _); first | ((conv => lhs; arg 1; whnf); first | refine listK_cons ?_ | refine listK_nil ?_) | fail) | ((with_reducible show forceB _ _ = _); first | refine forceB_ok ?_ | fail) | ((with_reducible show forceN _ _ = _); first | refine forceN_add ?_ | refine forceN_sub ?_ | refine forceN_suc ?_ | refine forceN_part ?_ | refine forceN_byte ?_ | refine forceN_ok ?_ | fail) | ((with_reducible show forceZ _ _ = _); first | refine forceZ_add ?_ | refine forceZ_mul (by (try simp only [maxK]); omega) ?_ | refine forceZ_sub ?_ | refine forceZ_ok ?_ | fail) | ((with_reducible show rowAt _ _ _ = _); first | refine rowAt_ok (byteRows_get (by (try simp only [maxK]); omega)) ?_ | (apply rowAt_ok; (focus assumption)) | fail) | ((with_reducible show Bool.rec (motive := fun _ => AnsT) _ _ _ = _); first | refine br_true (Nat.beq_refl _) ?_ | refine br_true (by assumption) ?_ | refine br_false (by assumption) ?_ | refine br_max (by (try simp only [maxK]); omega) ?_ | refine br_ble_t (by (try simp only [maxK]); omega) ?_ | refine br_ble_f (by (try simp only [maxK]); omega) ?_ | refine br_beq_f (by (try simp only [maxK]); omega) ?_ | refine br_true (by simp only [Bool.and_eq_true, Nat.ble_eq]; (try simp only []); omega) ?_ | (refine br_ble (fun h => ?_) (fun h => ?_) <;> (try simp only [] at h)) | (refine br_beq (fun h => ?_) (fun h => ?_) <;> (try simp only [] at h)) | refine br_split (fun h => ?_) (fun h => ?_) | fail) | fail)
  all_goals exact okIf_ok (frz_cons (frz_int rfl) (frz_cons (.flat _ rfl) frz_nil))

noncomputable def ovAtoi : OvT := ovF fun
  | [.ps len n] => some (Nat.ble 1 len && Nat.ble len 9 && Nat.beq (runP digitB len n) len, .tup [.int .i64 (.ofNat (numP len n 0)), .sc .nilIface])
  | _ => none
theorem ovAtoi_ok : OvOK ρ Tryd.prog 34 ovAtoi := ov_says fun args v h => by
  split at h
  · injection h with h
    injection h with g1 g2
    subst g2
    simp only [Bool.and_eq_true, Nat.ble_eq, Nat.beq_eq] at g1
    exact atoi _ _ g1.1.1 g1.1.2 g1.2
  · cases h

end Go.Proofs.YtibmbbogjkecoaaDoor.M

/- One token. -/
namespace Go.Proofs.YtibmbbogjkecoaaDoor.M
open Go
set_option linter.unusedSimpArgs false
set_option linter.unusedVariables false
variable {ρ : Nat → Value}

attribute [local irreducible] forceN forceZ forceB okIf roundsK valK rowAt listK
set_option maxRecDepth 100000

/-- What a reader hands out. -/
def tokOut (n line col : Nat) : Option (Nat × Nat × Nat) → V
  | some (kind, num, k) => .tup [.agg [.int .i64 (.ofNat kind), .int .i64 (.ofNat num), .int .i64 (.ofNat line), .int .i64 (.ofNat col), .ps k (n % 256 ^ k)], .bool true]
  | none => .tup [.agg [.int .i64 (.ofNat 0), .int .i64 (.ofNat 0), .int .i64 (.ofNat line), .int .i64 (.ofNat col), .ps 0 0], .bool false]
def tokRow (len n line col : Nat) : Option (Nat × Nat × Nat) → List V
  | some (_, _, k) => [.ps (len - k) (n / 256 ^ k), .int .i64 (.ofNat line), .int .i64 (.ofNat (col + k))]
  | none => [.ps len n, .int .i64 (.ofNat line), .int .i64 (.ofNat col)]

theorem token_says (len n line col : Nat) (hl : len ≤ 140737488355328) (hcol : col ≤ 281474976710656) :
    SaysM ρ Tryd.prog 22 (fun _ _ => False) [.ps len n, .int .i64 (.ofNat line), .int .i64 (.ofNat col)] [] (tokOut n line col (tokM len n)) (tokRow len n line col (tokM len n)) := by
  refine .wf (i := 0) rfl fun hn => ?_
  rw [show (fun _ _ => False : Nat → Nat → Prop) = inL [] 0 by rw [inL_nil]]
  refine saysM_run (call := over 31 (ovB letterB) (over 33 (ovB digitB) (over 29 ovRun (over 28 ovSkip (over 34 ovAtoi (over 35 ovIdx call0)))))) follows globL_ok
    (over_ok (ovB_ok letter_says) (over_ok (ovB_ok digit_says) (over_ok ovRun_ok (over_ok ovSkip_ok (over_ok ovAtoi_ok (over_ok ovIdx_ok call0_ok)))))) (fun q hq => by simp at hq; rcases hq with rfl | rfl | rfl <;> rfl) (fun q hq => by cases hq) ?_
  have hrun1 := runP_le innerB len n
  have hrun2 := runP_le digitB len n
  have es : ({ data := #[] } : ByteArray).size = 0 := rfl
  have ep : packL [] = 0 := rfl
  have hb0 := byte0 n
  have hmod := @runP_mod digitB (runP digitB len n) (runP digitB len n) n (Nat.le_refl _)
  have hself := @runP_self digitB len n
  have hend : ∀ (N : Nat → Prop) (O : Objs) (a b c d : Nat) (k m k' m' : Nat) (t : Bool), k = k' → m = m' → Frz N O (.tup [.agg [.int .i64 (.ofNat a), .int .i64 (.ofNat b), .int .i64 (.ofNat c), .int .i64 (.ofNat d), .ps k m], .bool t]) (.tup [.agg [.int .i64 (.ofNat a), .int .i64 (.ofNat b), .int .i64 (.ofNat c), .int .i64 (.ofNat d), .ps k' m'], .bool t]) :=
    fun N O a b c d k m k' m' t e1 e2 => frz_cons (frz_agg (frz_cons (frz_int rfl) (frz_cons (frz_int rfl) (frz_cons (frz_int rfl) (frz_cons (frz_int rfl) (frz_cons (frz_ps e1 e2) frz_nil)))))) (frz_cons (frz_bool rfl) frz_nil)
  have hrow3 : ∀ {k m a b : Nat}, ∀ q ∈ [V.ps k m, V.int .i64 (.ofNat a), V.int .i64 (.ofNat b)], q.flat = true ∧ q.one = true := fun q hq => by simp at hq; rcases hq with rfl | rfl | rfl <;> exact ⟨rfl, rfl⟩
  have hcond : 1 ≤ runP digitB len n → runP digitB len n ≤ 9 → (Nat.ble 1 (runP digitB len n) && Nat.ble (runP digitB len n) 9 && Nat.beq (runP digitB (runP digitB len n) (n / 256 ^ 0 % 256 ^ runP digitB len n)) (runP digitB len n)) = true := fun g1 g2 => by
    simp only [Nat.pow_zero, Nat.div_one, hmod, hself, Nat.beq_refl, Bool.and_true, Bool.and_eq_true, Nat.ble_eq]
    exact ⟨g1, g2⟩
  by_cases h0 : len = 0
  · subst h0
    have hn0 : n = 0 := by simpa using hn
    subst hn0
    repeat' ((conv => lhs; whnf); first | ((with_reducible show valK _ _ = _); first | ((conv => lhs; arg 1; whnf); refine valK_ok ?_) | fail) | ((with_reducible show listK _ _ = _); first | ((conv => lhs; arg 1; whnf); first | refine listK_cons ?_ | refine listK_nil ?_) | fail) | ((with_reducible show forceB _ _ = _); first | refine forceB_ok ?_ | fail) | ((with_reducible show forceN _ _ = _); first | refine forceN_add ?_ | refine forceN_sub ?_ | refine forceN_suc ?_ | refine forceN_part ?_ | refine forceN_byte ?_ | refine forceN_ok ?_ | fail) | ((with_reducible show forceZ _ _ = _); first | refine forceZ_add ?_ | refine forceZ_mul (by (try simp only [maxK]); omega) ?_ | refine forceZ_sub ?_ | refine forceZ_ok ?_ | fail) | ((with_reducible show rowAt _ _ _ = _); first | refine rowAt_ok (byteRows_get (by (try simp only [maxK]); omega)) ?_ | (apply rowAt_ok; (focus assumption)) | fail) | ((with_reducible show Bool.rec (motive := fun _ => AnsT) _ _ _ = _); first | refine br_true (Nat.beq_refl _) ?_ | refine br_true (by assumption) ?_ | refine br_false (by assumption) ?_ | refine br_max (by (try simp only [maxK]); omega) ?_ | refine br_ble_t (by (try simp only [maxK]); omega) ?_ | refine br_ble_f (by (try simp only [maxK]); omega) ?_ | refine br_beq_f (by (try simp only [maxK]); omega) ?_ | refine br_true (by simp only [Bool.and_eq_true, Nat.ble_eq]; (try simp only []); omega) ?_ | (refine br_ble (fun h => ?_) (fun h => ?_) <;> (try simp only [] at h)) | (refine br_beq (fun h => ?_) (fun h => ?_) <;> (try simp only [] at h)) | refine br_split (fun h => ?_) (fun h => ?_) | fail) | fail)
    exact okIf_ok ⟨hend _ _ 4 0 line col 0 0 _ _ true rfl rfl, frz_row (row := [.ps 0 0, .int .i64 (.ofNat line), .int .i64 (.ofNat col)]) rfl rfl hrow3⟩
  have hpos : 0 < len := by omega
  repeat' ((conv => lhs; whnf); first | ((with_reducible show valK _ _ = _); first | ((conv => lhs; arg 1; whnf); refine valK_ok ?_) | fail) | ((with_reducible show listK _ _ = _); first | ((conv => lhs; arg 1; whnf); first | refine listK_cons ?_ | refine listK_nil ?_) | fail) | ((with_reducible show forceB _ _ = _); first | refine forceB_ok ?_ | fail) | ((with_reducible show forceN _ _ = _); first | refine forceN_add ?_ | refine forceN_sub ?_ | refine forceN_suc ?_ | refine forceN_part ?_ | refine forceN_byte ?_ | refine forceN_ok ?_ | fail) | ((with_reducible show forceZ _ _ = _); first | refine forceZ_add ?_ | refine forceZ_mul (by (try simp only [maxK]); omega) ?_ | refine forceZ_sub ?_ | refine forceZ_ok ?_ | fail) | ((with_reducible show rowAt _ _ _ = _); first | refine rowAt_ok (byteRows_get (by (try simp only [maxK]); omega)) ?_ | (apply rowAt_ok; (focus assumption)) | fail) | ((with_reducible show Bool.rec (motive := fun _ => AnsT) _ _ _ = _); first | refine br_true (Nat.beq_refl _) ?_ | refine br_true (by assumption) ?_ | refine br_false (by assumption) ?_ | refine br_max (by (try simp only [maxK]); omega) ?_ | refine br_ble_t (by (try simp only [maxK]); omega) ?_ | refine br_ble_f (by (try simp only [maxK]); omega) ?_ | refine br_beq_f (by (try simp only [maxK]); omega) ?_ | refine br_true (by simp only [Bool.and_eq_true, Nat.ble_eq]; (try simp only []); omega) ?_ | (refine br_ble (fun h => ?_) (fun h => ?_) <;> (try simp only [] at h)) | (refine br_beq (fun h => ?_) (fun h => ?_) <;> (try simp only [] at h)) | refine br_split (fun h => ?_) (fun h => ?_) | fail) | fail)
  all_goals (try (conv => lhs; whnf))
  all_goals (try simp only [byte0, Nat.sub_zero] at *)
  · rw [tok_wordNo hpos ‹_› (by omega)]
    exact okIf_ok ⟨hend _ _ 0 0 line col 0 0 _ _ false rfl rfl, frz_row rfl rfl hrow3⟩
  · rw [tok_word hpos ‹_› (by omega)]
    exact okIf_ok ⟨hend _ _ 1 0 line col _ _ _ _ true rfl (by rw [Nat.pow_zero, Nat.div_one]), frz_row rfl rfl hrow3⟩
  · rw [tok_numNo hpos ‹_› ‹_› (.inl (by omega))]
    exact okIf_ok ⟨hend _ _ 0 0 line col 0 0 _ _ false rfl rfl, frz_row rfl rfl hrow3⟩
  · rw [tok_numNo hpos ‹_› ‹_› (.inr ⟨by omega, by omega⟩)]
    exact okIf_ok ⟨hend _ _ 0 0 line col 0 0 _ _ false rfl rfl, frz_row rfl rfl hrow3⟩
  · rw [tok_num hpos ‹letterB (n % 256) = false› ‹digitB (n % 256) = true› (by omega) (.inr (by omega))]
    simp only [Nat.pow_zero, Nat.div_one]
    exact okIf_ok ⟨hend _ _ 2 _ line col _ _ _ _ true rfl rfl, frz_row rfl rfl hrow3⟩
  · have hp2 := runP_pos (p := digitB) hpos ‹digitB (n % 256) = true›
    have hc2 := hcond (by omega) (by omega)
    rw [‹(Nat.ble 1 (runP digitB len n) && Nat.ble (runP digitB len n) 9 && Nat.beq (runP digitB (runP digitB len n) (n / 256 ^ 0 % 256 ^ runP digitB len n)) (runP digitB len n)) = false›] at hc2
    cases hc2
  · rw [tok_num hpos ‹letterB (n % 256) = false› ‹digitB (n % 256) = true› (by omega) (.inl (by omega))]
    simp only [Nat.pow_zero, Nat.div_one]
    exact okIf_ok ⟨hend _ _ 2 _ line col _ _ _ _ true rfl rfl, frz_row rfl rfl hrow3⟩
  · have hp2 := runP_pos (p := digitB) hpos ‹digitB (n % 256) = true›
    have hc2 := hcond (by omega) (by omega)
    rw [‹(Nat.ble 1 (runP digitB len n) && Nat.ble (runP digitB len n) 9 && Nat.beq (runP digitB (runP digitB len n) (n / 256 ^ 0 % 256 ^ runP digitB len n)) (runP digitB len n)) = false›] at hc2
    cases hc2
  · rw [tok_sign hpos ‹letterB (n % 256) = false› ‹digitB (n % 256) = false› ‹signB (n % 256) = true›]
    simp only [Nat.pow_zero, Nat.div_one]
    exact okIf_ok ⟨hend _ _ 3 0 line col _ _ _ _ true rfl rfl, frz_row rfl rfl hrow3⟩
  · rw [tok_none hpos ‹letterB (n % 256) = false› ‹digitB (n % 256) = false› ‹signB (n % 256) = false›]
    exact okIf_ok ⟨hend _ _ 0 0 line col 0 0 _ _ false rfl rfl, frz_row rfl rfl hrow3⟩

end Go.Proofs.YtibmbbogjkecoaaDoor.M

/- All tokens of a text. -/
namespace Go.Proofs.YtibmbbogjkecoaaDoor.M
open Go
set_option linter.unusedSimpArgs false
set_option linter.unusedVariables false
variable {ρ : Nat → Value}

attribute [local irreducible] forceN forceZ forceB okIf roundsK valK rowAt listK
set_option maxRecDepth 100000

noncomputable def ovBlanks : OvT := ovM fun row args => match row, args with
  | [.ps len n, .int .i64 (.ofNat line), .int .i64 (.ofNat col)], [] =>
    some (Nat.ble len 140737488355328 && Nat.ble line 140737488355328 && Nat.ble col 140737488355328, .tup [],
      [.ps (blanksF len len n line col).1 (blanksF len len n line col).2.1, .int .i64 (.ofNat (blanksF len len n line col).2.2.1), .int .i64 (.ofNat (blanksF len len n line col).2.2.2)])
  | _, _ => none
theorem ovBlanks_ok : OvOK ρ Tryd.prog 21 ovBlanks := ov_saysM fun row args v row' h => by
  split at h
  · injection h with h
    injection h with h1 h2
    injection h2 with h2 h3
    subst h2 h3
    simp only [Bool.and_eq_true, Nat.ble_eq] at h1
    exact blanks_says _ _ _ _ h1.1.1 h1.1.2 h1.2 _ rfl
  · cases h

noncomputable def ovToken : OvT := fun args forb hp nx kr _ => match args with
  | [.ptr k 0 0] => (acc4 KOb k).get hp fun ob => match ob with
    | .cell [.ps len n, .int .i64 (.ofNat line), .int .i64 (.ofNat col)] => must (Nat.ble len 140737488355328) (must (Nat.ble col 281474976710656) (noneK k forb
        (optX (tokM len n) ((acc4 KOb k).upd hp (.cell (tokRow len n line col none)) fun hp' => kr (tokOut n line col none) hp' nx)
          (fun t => (acc4 KOb k).upd hp (.cell (tokRow len n line col (some t))) fun hp' => kr (tokOut n line col (some t)) hp' nx))))
    | _ => .err 3
  | _ => .err 4
theorem ovToken_ok : OvOK ρ Tryd.prog 22 ovToken := by
  intro args forb hp nx kr kp h0
  unfold ovToken at h0
  split at h0
  · rename_i k
    obtain ⟨hlt, h1⟩ := acc4_get h0
    split at h1
    · rename_i ob len n line col hob
      obtain ⟨c1, h2⟩ := must_inv h1
      obtain ⟨c2, h3⟩ := must_inv h2
      obtain ⟨hn, h4⟩ := noneK_inv h3
      have key := token_says (ρ := ρ) len n line col (Nat.le_of_ble_eq_true c1) (Nat.le_of_ble_eq_true c2) (absO hp) nx (inL forb) k (by unfold absO; rw [if_pos hlt, hob]; rfl) (fun r c hx => (hn r c hx).elim)
      refine key.mono ?_
      rintro o O m ⟨e1, e2, e3⟩
      subst e1 e2 e3
      rcases optX_inv h4 with ⟨e, h5⟩ | ⟨t, e, h5⟩
      · obtain ⟨_, h6⟩ := acc4_upd h5
        rw [e]
        exact ⟨put4 hp k (.cell (tokRow len n line col none)), by rw [absO_put hlt]; rfl, h6⟩
      · obtain ⟨_, h6⟩ := acc4_upd h5
        rw [e]
        exact ⟨put4 hp k (.cell (tokRow len n line col (some t))), by rw [absO_put hlt]; rfl, h6⟩
    · exact Ans.no h1
  · exact Ans.no h0

attribute [local irreducible] acc4 get4 put4

/-- What Tokens answers. -/
def toksOut : LexR → V
  | .ok l => .tup [.ro 5 (l.map Tok.row), .int .i64 (.ofNat 0), .int .i64 (.ofNat 0), .int .i64 (.ofNat 0)]
  | .bad line col => .tup [.sc (.slice none 0 0), .int .i64 (.ofNat line), .int .i64 (.ofNat col), .int .i64 (.ofNat 2)]

theorem tok_flat {t : Tok} : ∀ q ∈ t.row, q.flat = true ∧ q.one = true := fun q hq => by simp [Tok.row] at hq; rcases hq with rfl | rfl | rfl | rfl | rfl <;> exact ⟨rfl, rfl⟩
theorem toks_flat {l : List Tok} : ∀ row ∈ l.map Tok.row, ∀ q ∈ row, q.flat = true ∧ q.one = true := fun row hr q hq => by obtain ⟨t, _, rfl⟩ := List.mem_map.mp hr; exact tok_flat q hq

set_option maxHeartbeats 4000000 in
theorem tokens_says (len n : Nat) (hl : len ≤ 16384) : Says ρ Tryd.prog 13 [.ps len n] (toksOut (toksF (len + 1) len n 1 1)) := by
  refine .wf (i := 0) rfl fun hn => ?_
  refine says_run (call := over 21 ovBlanks (over 22 ovToken call0)) follows globL_ok (over_ok ovBlanks_ok (over_ok ovToken_ok call0_ok)) (arg1 rfl) ?_
  repeat' ((conv => lhs; whnf); first | ((with_reducible show valK _ _ = _); first | ((conv => lhs; arg 1; whnf); refine valK_ok ?_) | fail) | ((with_reducible show listK _ _ = _); first | ((conv => lhs; arg 1; whnf); first | refine listK_cons ?_ | refine listK_nil ?_) | fail) | ((with_reducible show forceB _ _ = _); first | refine forceB_ok ?_ | fail) | ((with_reducible show forceN _ _ = _); first | refine forceN_add ?_ | refine forceN_sub ?_ | refine forceN_suc ?_ | refine forceN_part ?_ | refine forceN_byte ?_ | refine forceN_ok ?_ | fail) | ((with_reducible show forceZ _ _ = _); first | refine forceZ_add ?_ | refine forceZ_mul (by (try simp only [maxK]); omega) ?_ | refine forceZ_sub ?_ | refine forceZ_ok ?_ | fail) | ((with_reducible show rowAt _ _ _ = _); first | refine rowAt_ok (byteRows_get (by (try simp only [maxK]); omega)) ?_ | (apply rowAt_ok; (focus assumption)) | fail) | ((with_reducible show Bool.rec (motive := fun _ => AnsT) _ _ _ = _); first | refine br_true (Nat.beq_refl _) ?_ | refine br_true (by assumption) ?_ | refine br_false (by assumption) ?_ | refine br_max (by (try simp only [maxK]); omega) ?_ | refine br_ble_t (by (try simp only [maxK]); omega) ?_ | refine br_ble_f (by (try simp only [maxK]); omega) ?_ | refine br_beq_f (by (try simp only [maxK]); omega) ?_ | refine br_true (by simp only [Bool.and_eq_true, Nat.ble_eq]; (try simp only []); omega) ?_ | (refine br_ble (fun h => ?_) (fun h => ?_) <;> (try simp only [] at h)) | (refine br_beq (fun h => ?_) (fun h => ?_) <;> (try simp only [] at h)) | refine br_split (fun h => ?_) (fun h => ?_) | fail) | ((with_reducible show (acc4 _ _).upd _ _ _ = _); first | refine acc4_upd_ok (by omega) ?_ | fail) | ((with_reducible show (acc4 _ _).get _ _ = _); first | refine acc4_get_same (by omega) ?_ | refine acc4_get_other (by omega) (by omega) (by omega) ?_ | refine acc4_get_ok (by omega) (by assumption) ?_ | fail) | refine opt3_split (fun h => ?_) (fun kind num tl h => ?_) | refine int_split (fun a h => ?_) (fun a h => ?_) | fail)
  conv => lhs; whnf
  refine loop_ok (fun m tm hp nx => ∃ l x li co acc, l < m ∧ x < 256 ^ l ∧ get4 hp 0 = .cell [.ps l x, .int .i64 (.ofNat li), .int .i64 (.ofNat co)] ∧ (toksF m l x li co).pre acc = toksF (len + 1) len n 1 1 ∧ l ≤ 16384 ∧ li + l ≤ 16386 ∧ co + l ≤ 16386 ∧ 1 ≤ nx ∧ nx + 3 * m ≤ 50000 ∧ acc.length + m = len + 1 ∧
    (acc = [] ∧ get2 tm 2 = .sc (.slice none 0 0) ∨ ∃ j, 0 < j ∧ j < nx ∧ get4 hp j = .ls 5 (acc.map Tok.row) ∧ get2 tm 2 = .sl j 0 (acc.map Tok.row).length false) ∧ get2 tm 6 = .ptr 0 0 0 ∧ get2 tm 255 = .un) (m := len + 1) (by omega)
    ⟨len, n, 1, 1, [], by omega, hn, get4_same (by omega), LexR.pre_nil _, hl, by omega, by omega, by omega, by omega, by simp, .inl ⟨rfl, rfl⟩, rfl, rfl⟩ ?_
  rintro m tm hp nx ⟨l, x, li, co, acc, hlm, hx, hrow, hres, hl1, hli, hco, hnx, hnx2, hal, hacc, e6, e255⟩ k hk
  have hB := blanksF_facts (f := l) (line := li) (col := co) hx
  have hT := fun kind num tl h => @tokM_facts (blanksF l l x li co).1 (blanksF l l x li co).2.1 kind num tl h
  have hal2 : (acc.map Tok.row).length = acc.length := by simp
  (obtain ⟨y0, y1, y2, y3, y4, y5, y6, y7, y8, y9, y10, y11, y12, y13, y14, y15⟩ := tm; obtain ⟨x0, x1, x2, x3, x4, x5, x6, x7, x8, x9, x10, x11, x12, x13, x14, x15⟩ := y0; obtain ⟨x16, x17, x18, x19, x20, x21, x22, x23, x24, x25, x26, x27, x28, x29, x30, x31⟩ := y1; obtain ⟨x32, x33, x34, x35, x36, x37, x38, x39, x40, x41, x42, x43, x44, x45, x46, x47⟩ := y2; obtain ⟨x240, x241, x242, x243, x244, x245, x246, x247, x248, x249, x250, x251, x252, x253, x254, x255⟩ := y15)
  cases e6
  cases e255
  obtain ⟨f, rfl⟩ : ∃ f, m = f + 1 := ⟨m - 1, by omega⟩
  rcases hacc with ⟨ea, e2⟩ | ⟨j, hj0, hj, hob, e2⟩
  · subst ea
    cases e2
    repeat' ((conv => lhs; whnf); first | ((with_reducible show valK _ _ = _); first | ((conv => lhs; arg 1; whnf); refine valK_ok ?_) | fail) | ((with_reducible show listK _ _ = _); first | ((conv => lhs; arg 1; whnf); first | refine listK_cons ?_ | refine listK_nil ?_) | fail) | ((with_reducible show forceB _ _ = _); first | refine forceB_ok ?_ | fail) | ((with_reducible show forceN _ _ = _); first | refine forceN_add ?_ | refine forceN_sub ?_ | refine forceN_suc ?_ | refine forceN_part ?_ | refine forceN_byte ?_ | refine forceN_ok ?_ | fail) | ((with_reducible show forceZ _ _ = _); first | refine forceZ_add ?_ | refine forceZ_mul (by (try simp only [maxK]); omega) ?_ | refine forceZ_sub ?_ | refine forceZ_ok ?_ | fail) | ((with_reducible show rowAt _ _ _ = _); first | refine rowAt_ok (byteRows_get (by (try simp only [maxK]); omega)) ?_ | (apply rowAt_ok; (focus assumption)) | fail) | ((with_reducible show Bool.rec (motive := fun _ => AnsT) _ _ _ = _); first | refine br_true (Nat.beq_refl _) ?_ | refine br_true (by assumption) ?_ | refine br_false (by assumption) ?_ | refine br_max (by (try simp only [maxK]); omega) ?_ | refine br_ble_t (by (try simp only [maxK]); omega) ?_ | refine br_ble_f (by (try simp only [maxK]); omega) ?_ | refine br_beq_f (by (try simp only [maxK]); omega) ?_ | refine br_true (by simp only [Bool.and_eq_true, Nat.ble_eq]; (try simp only []); omega) ?_ | (refine br_ble (fun h => ?_) (fun h => ?_) <;> (try simp only [] at h)) | (refine br_beq (fun h => ?_) (fun h => ?_) <;> (try simp only [] at h)) | refine br_split (fun h => ?_) (fun h => ?_) | fail) | ((with_reducible show (acc4 _ _).upd _ _ _ = _); first | refine acc4_upd_ok (by omega) ?_ | fail) | ((with_reducible show (acc4 _ _).get _ _ = _); first | refine acc4_get_same (by omega) ?_ | refine acc4_get_other (by omega) (by omega) (by omega) ?_ | refine acc4_get_ok (by omega) (by assumption) ?_ | fail) | refine opt3_split (fun h => ?_) (fun kind num tl h => ?_) | refine int_split (fun a h => ?_) (fun a h => ?_) | fail)
    all_goals (try (conv => lhs; whnf))
    · rw [LexR.pre_nil, toks_bad ‹_›] at hres
      rw [← hres]
      exact okIf_ok (frz_cons (.flat _ rfl) (frz_cons (frz_int rfl) (frz_cons (frz_int rfl) (frz_cons (frz_int rfl) frz_nil))))
    · rename_i ht
      subst h
      obtain ⟨_, ⟨_, _, hnum, htl⟩ | ⟨h4, _⟩⟩ := hT _ _ _ ht
      · subst hnum htl
        rw [toks_end ht, LexR.pre] at hres
        rw [← hres]
        refine okIf_ok (frz_cons (frz_ls (by omega) rfl ?_ rfl toks_flat) (frz_cons (frz_int rfl) (frz_cons (frz_int rfl) (frz_cons (frz_int rfl) frz_nil))))
        rw [Nat.pow_zero, Nat.mod_one]
        rfl
      · exact absurd rfl h4
    · rename_i ht
      obtain ⟨h5, ⟨h4, _⟩ | ⟨h4, h6⟩⟩ := hT _ _ _ ht
      · exact absurd h4 h
      · rw [toks_more ht h4, LexR.pre_pre] at hres
        refine hk f _ _ _ (by omega) ⟨_, _, _, _, _, ?_, part_lt hB.2.1 h5, ?_, hres, ?_, ?_, ?_, ?_, ?_, ?_, .inr ⟨nx + 1 + 1, ?_, ?_, ?_, ?_⟩, rfl, rfl⟩
        · omega
        · exact get4_other (by omega) (by omega) (by omega) (get4_other (by omega) (by omega) (by omega) (get4_other (by omega) (by omega) (by omega) (get4_other (by omega) (by omega) (by omega) (get4_same (by omega)))))
        · omega
        · omega
        · omega
        · omega
        · omega
        · simp at hal ⊢; omega
        · omega
        · omega
        · exact get4_same (by omega)
        · rfl
  · cases e2
    repeat' ((conv => lhs; whnf); first | ((with_reducible show valK _ _ = _); first | ((conv => lhs; arg 1; whnf); refine valK_ok ?_) | fail) | ((with_reducible show listK _ _ = _); first | ((conv => lhs; arg 1; whnf); first | refine listK_cons ?_ | refine listK_nil ?_) | fail) | ((with_reducible show forceB _ _ = _); first | refine forceB_ok ?_ | fail) | ((with_reducible show forceN _ _ = _); first | refine forceN_add ?_ | refine forceN_sub ?_ | refine forceN_suc ?_ | refine forceN_part ?_ | refine forceN_byte ?_ | refine forceN_ok ?_ | fail) | ((with_reducible show forceZ _ _ = _); first | refine forceZ_add ?_ | refine forceZ_mul (by (try simp only [maxK]); omega) ?_ | refine forceZ_sub ?_ | refine forceZ_ok ?_ | fail) | ((with_reducible show rowAt _ _ _ = _); first | refine rowAt_ok (byteRows_get (by (try simp only [maxK]); omega)) ?_ | (apply rowAt_ok; (focus assumption)) | fail) | ((with_reducible show Bool.rec (motive := fun _ => AnsT) _ _ _ = _); first | refine br_true (Nat.beq_refl _) ?_ | refine br_true (by assumption) ?_ | refine br_false (by assumption) ?_ | refine br_max (by (try simp only [maxK]); omega) ?_ | refine br_ble_t (by (try simp only [maxK]); omega) ?_ | refine br_ble_f (by (try simp only [maxK]); omega) ?_ | refine br_beq_f (by (try simp only [maxK]); omega) ?_ | refine br_true (by simp only [Bool.and_eq_true, Nat.ble_eq]; (try simp only []); omega) ?_ | (refine br_ble (fun h => ?_) (fun h => ?_) <;> (try simp only [] at h)) | (refine br_beq (fun h => ?_) (fun h => ?_) <;> (try simp only [] at h)) | refine br_split (fun h => ?_) (fun h => ?_) | fail) | ((with_reducible show (acc4 _ _).upd _ _ _ = _); first | refine acc4_upd_ok (by omega) ?_ | fail) | ((with_reducible show (acc4 _ _).get _ _ = _); first | refine acc4_get_same (by omega) ?_ | refine acc4_get_other (by omega) (by omega) (by omega) ?_ | refine acc4_get_ok (by omega) (by assumption) ?_ | fail) | refine opt3_split (fun h => ?_) (fun kind num tl h => ?_) | refine int_split (fun a h => ?_) (fun a h => ?_) | fail)
    all_goals (try (conv => lhs; whnf))
    · rw [toks_bad ‹_›, LexR.pre] at hres
      rw [← hres]
      exact okIf_ok (frz_cons (.flat _ rfl) (frz_cons (frz_int rfl) (frz_cons (frz_int rfl) (frz_cons (frz_int rfl) frz_nil))))
    · rename_i ht _
      subst h
      obtain ⟨_, ⟨_, _, hnum, htl⟩ | ⟨h4, _⟩⟩ := hT _ _ _ ht
      · subst hnum htl
        rw [toks_end ht, LexR.pre] at hres
        rw [← hres]
        refine okIf_ok (frz_cons (frz_ls (by omega) rfl ?_ ?_ toks_flat) (frz_cons (frz_int rfl) (frz_cons (frz_int rfl) (frz_cons (frz_int rfl) frz_nil))))
        · rw [Nat.pow_zero, Nat.mod_one]
          rw [List.take_length, List.map_append]
          rfl
        · simp
      · exact absurd rfl h4
    · rename_i ht _
      obtain ⟨h5, ⟨h4, _⟩ | ⟨h4, h6⟩⟩ := hT _ _ _ ht
      · exact absurd h4 h
      · rw [toks_more ht h4, LexR.pre_pre] at hres
        refine hk f _ _ _ (by omega) ⟨_, _, _, _, _, ?_, part_lt hB.2.1 h5, ?_, hres, ?_, ?_, ?_, ?_, ?_, ?_, .inr ⟨nx + 1 + 1, ?_, ?_, ?_, ?_⟩, rfl, rfl⟩
        · omega
        · exact get4_other (by omega) (by omega) (by omega) (get4_other (by omega) (by omega) (by omega) (get4_other (by omega) (by omega) (by omega) (get4_other (by omega) (by omega) (by omega) (get4_other (by omega) (by omega) (by omega) (get4_same (by omega))))))
        · omega
        · omega
        · omega
        · omega
        · omega
        · simp at hal ⊢; omega
        · omega
        · omega
        · rw [List.map_append]
          refine (get4_same (by omega)).trans ?_
          rw [List.take_length]
          rfl
        · rw [List.map_append, List.length_append]
          rfl
    · have h7 : 140737488355328 < ((acc.map Tok.row).length + 1) * 48 := h
      omega

end Go.Proofs.YtibmbbogjkecoaaDoor.M

/- The tokens as answers. -/
namespace Go.Proofs.YtibmbbogjkecoaaDoor.M
open Go
set_option linter.unusedSimpArgs false
set_option linter.unusedVariables false
variable {ρ : Nat → Value}

/-- Both lexers. -/
noncomputable def ovToks : OvT := fun args _ hp nx kr _ => match args with
  | [.ps len n] => must (Nat.ble len 16384) (lexX (toksF (len + 1) len n 1 1)
      (fun l => kr (.tup [.ro 5 (l.map Tok.row), .int .i64 (.ofNat 0), .int .i64 (.ofNat 0), .int .i64 (.ofNat 0)]) hp nx)
      (fun line col => kr (.tup [.sc (.slice none 0 0), .int .i64 (.ofNat line), .int .i64 (.ofNat col), .int .i64 (.ofNat 2)]) hp nx))
  | _ => .err 1
theorem ovToks_ok {f : FuncId} (hs : ∀ len n, len ≤ 16384 → Says ρ Tryd.prog f [.ps len n] (toksOut (toksF (len + 1) len n 1 1))) : OvOK ρ Tryd.prog f ovToks := by
  intro args forb hp nx kr kp h0
  unfold ovToks at h0
  split at h0
  · rename_i len n
    obtain ⟨c1, h1⟩ := must_inv h0
    refine (hs len n (Nat.le_of_ble_eq_true c1) (absO hp) nx (inL forb)).mono ?_
    rintro o O m ⟨e1, e2, e3⟩
    subst e1 e2 e3
    rcases lexX_inv h1 with ⟨l, e, h⟩ | ⟨a, b, e, h⟩ <;> rw [e] <;> exact ⟨hp, rfl, h⟩
  · exact Ans.no h0

end Go.Proofs.YtibmbbogjkecoaaDoor.M

/- The key words, and words among others. -/
namespace Go.Proofs.YtibmbbogjkecoaaDoor.M
open Go
set_option linter.unusedSimpArgs false
set_option linter.unusedVariables false

/-- The key words. -/
def ktab : List (Nat × Nat) := [(3, 6779757), (3, 6514034), (3, 6710628), (5, 491496170337), (2, 28271), (3, 7628140), (3, 7824750), (5, 500135195763), (3, 7628135), (3, 7628147), (4, 1885435763), (7, 32199706694346098), (4, 1702259047), (4, 1886351212), (5, 474449277043), (4, 1819042147), (5, 474214393697), (5, 431415719271), (4, 1701147238), (2, 29537), (2, 26217), (4, 1702063205), (4, 1701736292), (4, 1702260589), (3, 7630441), (3, 7500385), (3, 7304041), (3, 7102838), (3, 6710642), (3, 6775156)]
def isW (l n : Nat) (p : Nat × Nat) : Bool := Nat.beq l p.1 && Nat.beq n p.2
def keyM (l n : Nat) : Bool := ktab.any (isW l n)
theorem tab_at {tab : List (Nat × Nat)} {i : Nat} (hl : i < tab.length) : (tab.map fun p => [V.ps p.1 p.2])[i]? = some [.ps (tab.getD i (0, 0)).1 (tab.getD i (0, 0)).2] := by
  rw [List.getElem?_map, List.getElem?_eq_getElem hl, List.getD_eq_getElem?_getD, List.getElem?_eq_getElem hl]
  rfl
theorem any_step {tab : List (Nat × Nat)} {f : Nat × Nat → Bool} {i : Nat} (hl : i < tab.length) : (tab.drop i).any f = (f (tab.getD i (0, 0)) || (tab.drop (i + 1)).any f) := by
  rw [List.drop_eq_getElem_cons hl, List.any_cons, List.getD_eq_getElem?_getD, List.getElem?_eq_getElem hl]
  rfl


end Go.Proofs.YtibmbbogjkecoaaDoor.M

/- For LexNames: is a word among others (slices.Contains). -/
namespace Go.Proofs.YtibmbbogjkecoaaDoor.M
open Go
set_option linter.unusedSimpArgs false
set_option linter.unusedVariables false
variable {ρ : Nat → Value}

/-- Where a word stands. -/
def idxW (l n : Nat) : List (Nat × Nat) → Nat → Int
  | [], _ => .negSucc 0
  | p :: t, i => match isW l n p with
    | true => .ofNat i
    | false => idxW l n t (i + 1)
theorem idx_step {tab : List (Nat × Nat)} {l n i : Nat} (hl : i < tab.length) : idxW l n (tab.drop i) i = (match isW l n (tab.getD i (0, 0)) with | true => Int.ofNat i | false => idxW l n (tab.drop (i + 1)) (i + 1)) := by
  rw [List.drop_eq_getElem_cons hl, List.getD_eq_getElem?_getD, List.getElem?_eq_getElem hl]
  rfl
theorem idx_any : ∀ (t : List (Nat × Nat)) (l n i : Nat), t.any (isW l n) = true ∧ (∃ k, idxW l n t i = .ofNat k) ∨ t.any (isW l n) = false ∧ idxW l n t i = .negSucc 0
  | [], l, n, i => .inr ⟨rfl, rfl⟩
  | p :: t, l, n, i => by
    rw [List.any_cons]
    cases h : isW l n p with
    | true => exact .inl ⟨rfl, i, by simp [idxW, h]⟩
    | false =>
      have := idx_any t l n (i + 1)
      simpa [idxW, h] using this

attribute [local irreducible] forceN forceZ forceB okIf roundsK valK rowAt listK
set_option maxRecDepth 100000

set_option maxHeartbeats 4000000 in
theorem index_says (tab : List (Nat × Nat)) (len n : Nat) (hl : len ≤ 140737488355328) (ht : tab.length ≤ 140737488355328) : Says ρ Tryd.prog 16 [.ro 1 (tab.map fun p => [.ps p.1 p.2]), .ps len n] (.int .i64 (idxW len n tab 0)) := by
  have hkm : (tab.map fun p => [V.ps p.1 p.2]).length = tab.length := by simp
  refine says_run (call := call0) follows globL_ok call0_ok (arg2 rfl rfl) ?_
  repeat' ((conv => lhs; whnf); first | ((with_reducible show valK _ _ = _); first | ((conv => lhs; arg 1; whnf); refine valK_ok ?_) | fail) | ((with_reducible show listK _ _ = _); first | ((conv => lhs; arg 1; whnf); first | refine listK_cons ?_ | refine listK_nil ?_) | fail) | ((with_reducible show forceB _ _ = _); first | refine forceB_ok ?_ | fail) | ((with_reducible show forceN _ _ = _); first | refine forceN_add ?_ | refine forceN_sub ?_ | refine forceN_suc ?_ | refine forceN_part ?_ | refine forceN_byte ?_ | refine forceN_ok ?_ | fail) | ((with_reducible show forceZ _ _ = _); first | refine forceZ_add ?_ | refine forceZ_mul (by (try simp only [maxK]); omega) ?_ | refine forceZ_sub ?_ | refine forceZ_ok ?_ | fail) | ((with_reducible show rowAt _ _ _ = _); first | refine rowAt_ok (byteRows_get (by (try simp only [maxK]); omega)) ?_ | (apply rowAt_ok; (focus assumption)) | fail) | ((with_reducible show Bool.rec (motive := fun _ => AnsT) _ _ _ = _); first | refine br_true (Nat.beq_refl _) ?_ | refine br_true (by assumption) ?_ | refine br_false (by assumption) ?_ | refine br_max (by (try simp only [maxK]); omega) ?_ | refine br_ble_t (by (try simp only [maxK]); omega) ?_ | refine br_ble_f (by (try simp only [maxK]); omega) ?_ | refine br_beq_f (by (try simp only [maxK]); omega) ?_ | refine br_true (by simp only [Bool.and_eq_true, Nat.ble_eq]; (try simp only []); omega) ?_ | (refine br_ble (fun h => ?_) (fun h => ?_) <;> (try simp only [] at h)) | (refine br_beq (fun h => ?_) (fun h => ?_) <;> (try simp only [] at h)) | refine br_split (fun h => ?_) (fun h => ?_) | fail) | ((with_reducible show (acc4 _ _).upd _ _ _ = _); first | refine acc4_upd_ok (by omega) ?_ | fail) | ((with_reducible show (acc4 _ _).get _ _ = _); first | refine acc4_get_same (by omega) ?_ | refine acc4_get_other (by omega) (by omega) (by omega) ?_ | refine acc4_get_ok (by omega) (by assumption) ?_ | fail) | refine opt3_split (fun h => ?_) (fun kind num tl h => ?_) | refine int_split (fun a h => ?_) (fun a h => ?_) | fail)
  conv => lhs; whnf
  refine loop_ok (fun m tm hp nx => ∃ i, m = tab.length - i ∧ i ≤ tab.length ∧ idxW len n tab 0 = idxW len n (tab.drop i) i ∧ get2 tm 0 = .ro 1 (tab.map fun p => [.ps p.1 p.2]) ∧ get2 tm 1 = .ps len n ∧ get2 tm 7 = .int .i64 (.ofNat (tab.map fun p => [V.ps p.1 p.2]).length) ∧ get2 tm 8 = .int .i64 (.ofNat i) ∧ get2 tm 255 = .un) (m := tab.length) (by omega)
    ⟨0, rfl, by omega, rfl, rfl, rfl, rfl, rfl, rfl⟩ ?_
  rintro m tm hp nx ⟨i, rfl, hi, hr, e0, e1, e7, e8, e255⟩ k hk
  (obtain ⟨y0, y1, y2, y3, y4, y5, y6, y7, y8, y9, y10, y11, y12, y13, y14, y15⟩ := tm; obtain ⟨x0, x1, x2, x3, x4, x5, x6, x7, x8, x9, x10, x11, x12, x13, x14, x15⟩ := y0; obtain ⟨x16, x17, x18, x19, x20, x21, x22, x23, x24, x25, x26, x27, x28, x29, x30, x31⟩ := y1; obtain ⟨x240, x241, x242, x243, x244, x245, x246, x247, x248, x249, x250, x251, x252, x253, x254, x255⟩ := y15)
  cases e0
  cases e1
  cases e7
  cases e8
  cases e255
  rcases Nat.lt_or_ge i tab.length with hlt | hge
  · have hrow := tab_at hlt
    have hst := idx_step (l := len) (n := n) hlt
    generalize hw : tab.getD i (0, 0) = w at *
    obtain ⟨w1, w2⟩ := w
    repeat' ((conv => lhs; whnf); first | ((with_reducible show valK _ _ = _); first | ((conv => lhs; arg 1; whnf); refine valK_ok ?_) | fail) | ((with_reducible show listK _ _ = _); first | ((conv => lhs; arg 1; whnf); first | refine listK_cons ?_ | refine listK_nil ?_) | fail) | ((with_reducible show forceB _ _ = _); first | refine forceB_ok ?_ | fail) | ((with_reducible show forceN _ _ = _); first | refine forceN_add ?_ | refine forceN_sub ?_ | refine forceN_suc ?_ | refine forceN_part ?_ | refine forceN_byte ?_ | refine forceN_ok ?_ | fail) | ((with_reducible show forceZ _ _ = _); first | refine forceZ_add ?_ | refine forceZ_mul (by (try simp only [maxK]); omega) ?_ | refine forceZ_sub ?_ | refine forceZ_ok ?_ | fail) | ((with_reducible show rowAt _ _ _ = _); first | refine rowAt_ok (byteRows_get (by (try simp only [maxK]); omega)) ?_ | (apply rowAt_ok; (focus assumption)) | fail) | ((with_reducible show Bool.rec (motive := fun _ => AnsT) _ _ _ = _); first | refine br_true (Nat.beq_refl _) ?_ | refine br_true (by assumption) ?_ | refine br_false (by assumption) ?_ | refine br_max (by (try simp only [maxK]); omega) ?_ | refine br_ble_t (by (try simp only [maxK]); omega) ?_ | refine br_ble_f (by (try simp only [maxK]); omega) ?_ | refine br_beq_f (by (try simp only [maxK]); omega) ?_ | refine br_true (by simp only [Bool.and_eq_true, Nat.ble_eq]; (try simp only []); omega) ?_ | (refine br_ble (fun h => ?_) (fun h => ?_) <;> (try simp only [] at h)) | (refine br_beq (fun h => ?_) (fun h => ?_) <;> (try simp only [] at h)) | refine br_split (fun h => ?_) (fun h => ?_) | fail) | ((with_reducible show (acc4 _ _).upd _ _ _ = _); first | refine acc4_upd_ok (by omega) ?_ | fail) | ((with_reducible show (acc4 _ _).get _ _ = _); first | refine acc4_get_same (by omega) ?_ | refine acc4_get_other (by omega) (by omega) (by omega) ?_ | refine acc4_get_ok (by omega) (by assumption) ?_ | fail) | refine opt3_split (fun h => ?_) (fun kind num tl h => ?_) | refine int_split (fun a h => ?_) (fun a h => ?_) | fail)
    all_goals (try (conv => lhs; whnf))
    all_goals first
    | (refine hk _ _ _ _ (by omega) ⟨i + 1, rfl, by omega, ?_, rfl, rfl, rfl, rfl, rfl⟩
       have hf : isW len n (w1, w2) = false := by
         show (Nat.beq len w1 && Nat.beq n w2) = false
         first
         | (rw [beq_false_iff.mpr ‹len ≠ w1›]; rfl)
         | (rw [beq_false_iff.mpr ‹n ≠ w2›, Bool.and_false])
       rw [hr, hst, hf])
    | (refine okIf_ok (frz_int ?_)
       have ht : isW len n (w1, w2) = true := by
         show (Nat.beq len w1 && Nat.beq n w2) = true
         rw [‹len = w1›, ‹n = w2›, Nat.beq_refl, Nat.beq_refl]
         rfl
       rw [hr, hst, ht])
  · repeat' ((conv => lhs; whnf); first | ((with_reducible show valK _ _ = _); first | ((conv => lhs; arg 1; whnf); refine valK_ok ?_) | fail) | ((with_reducible show listK _ _ = _); first | ((conv => lhs; arg 1; whnf); first | refine listK_cons ?_ | refine listK_nil ?_) | fail) | ((with_reducible show forceB _ _ = _); first | refine forceB_ok ?_ | fail) | ((with_reducible show forceN _ _ = _); first | refine forceN_add ?_ | refine forceN_sub ?_ | refine forceN_suc ?_ | refine forceN_part ?_ | refine forceN_byte ?_ | refine forceN_ok ?_ | fail) | ((with_reducible show forceZ _ _ = _); first | refine forceZ_add ?_ | refine forceZ_mul (by (try simp only [maxK]); omega) ?_ | refine forceZ_sub ?_ | refine forceZ_ok ?_ | fail) | ((with_reducible show rowAt _ _ _ = _); first | refine rowAt_ok (byteRows_get (by (try simp only [maxK]); omega)) ?_ | (apply rowAt_ok; (focus assumption)) | fail) | ((with_reducible show Bool.rec (motive := fun _ => AnsT) _ _ _ = _); first | refine br_true (Nat.beq_refl _) ?_ | refine br_true (by assumption) ?_ | refine br_false (by assumption) ?_ | refine br_max (by (try simp only [maxK]); omega) ?_ | refine br_ble_t (by (try simp only [maxK]); omega) ?_ | refine br_ble_f (by (try simp only [maxK]); omega) ?_ | refine br_beq_f (by (try simp only [maxK]); omega) ?_ | refine br_true (by simp only [Bool.and_eq_true, Nat.ble_eq]; (try simp only []); omega) ?_ | (refine br_ble (fun h => ?_) (fun h => ?_) <;> (try simp only [] at h)) | (refine br_beq (fun h => ?_) (fun h => ?_) <;> (try simp only [] at h)) | refine br_split (fun h => ?_) (fun h => ?_) | fail) | ((with_reducible show (acc4 _ _).upd _ _ _ = _); first | refine acc4_upd_ok (by omega) ?_ | fail) | ((with_reducible show (acc4 _ _).get _ _ = _); first | refine acc4_get_same (by omega) ?_ | refine acc4_get_other (by omega) (by omega) (by omega) ?_ | refine acc4_get_ok (by omega) (by assumption) ?_ | fail) | refine opt3_split (fun h => ?_) (fun kind num tl h => ?_) | refine int_split (fun a h => ?_) (fun a h => ?_) | fail)
    all_goals (try (conv => lhs; whnf))
    refine okIf_ok (frz_int ?_)
    rw [hr, List.drop_eq_nil_of_le hge]
    rfl

/-- Index, for one list of words. -/
noncomputable def ovIndex (tab : List (Nat × Nat)) : OvT := fun args _ hp nx kr _ => match args with
  | [.ro 1 rows, .ps len n] => askP (rows = tab.map (fun p => [V.ps p.1 p.2]) ∧ len ≤ 140737488355328) (kr (.int .i64 (idxW len n tab 0)) hp nx)
  | _ => .err 1
theorem ovIndex_ok {tab : List (Nat × Nat)} (ht : tab.length ≤ 140737488355328) : OvOK ρ Tryd.prog 16 (ovIndex tab) := by
  intro args forb hp nx kr kp h0
  unfold ovIndex at h0
  split at h0
  · rename_i rows len n
    obtain ⟨⟨rfl, h2⟩, h3⟩ := askP_inv h0
    refine (index_says tab len n h2 ht (absO hp) nx (inL forb)).mono ?_
    rintro o O m ⟨e1, e2, e3⟩
    subst e1 e2 e3
    exact ⟨hp, rfl, h3⟩
  · exact Ans.no h0

attribute [local irreducible] askP idxW in
set_option maxHeartbeats 4000000 in
theorem contains_says (tab : List (Nat × Nat)) (len n : Nat) (hl : len ≤ 140737488355328) (ht : tab.length ≤ 140737488355328) : Says ρ Tryd.prog 65 [.ro 1 (tab.map fun p => [.ps p.1 p.2]), .ps len n] (.bool (tab.any (isW len n))) := by
  have hi := idx_any tab len n 0
  refine says_run (call := over 16 (ovIndex tab) call0) follows globL_ok (over_ok (ovIndex_ok ht) call0_ok) (arg2 rfl rfl) ?_
  rcases hi with ⟨h1, j, h2⟩ | ⟨h1, h2⟩
  · rw [h1]
    repeat' ((conv => lhs; whnf); first | ((with_reducible show valK _ _ = _); first | ((conv => lhs; arg 1; whnf); refine valK_ok ?_) | fail) | ((with_reducible show listK _ _ = _); first | ((conv => lhs; arg 1; whnf); first | refine listK_cons ?_ | refine listK_nil ?_) | fail) | ((with_reducible show forceB _ _ = _); first | refine forceB_ok ?_ | fail) | ((with_reducible show forceN _ _ = _); first | refine forceN_add ?_ | refine forceN_sub ?_ | refine forceN_suc ?_ | refine forceN_part ?_ | refine forceN_byte ?_ | refine forceN_ok ?_ | fail) | ((with_reducible show forceZ _ _ = _); first | refine forceZ_add ?_ | refine forceZ_mul (by (try simp only [maxK]); omega) ?_ | refine forceZ_sub ?_ | refine forceZ_ok ?_ | fail) | ((with_reducible show rowAt _ _ _ = _); first | refine rowAt_ok (byteRows_get (by (try simp only [maxK]); omega)) ?_ | (apply rowAt_ok; (focus assumption)) | fail) | ((with_reducible show Bool.rec (motive := fun _ => AnsT) _ _ _ = _); first | refine br_true (Nat.beq_refl _) ?_ | refine br_true (by assumption) ?_ | refine br_false (by assumption) ?_ | refine br_max (by (try simp only [maxK]); omega) ?_ | refine br_ble_t (by (try simp only [maxK]); omega) ?_ | refine br_ble_f (by (try simp only [maxK]); omega) ?_ | refine br_beq_f (by (try simp only [maxK]); omega) ?_ | refine br_true (by simp only [Bool.and_eq_true, Nat.ble_eq]; (try simp only []); omega) ?_ | (refine br_ble (fun h => ?_) (fun h => ?_) <;> (try simp only [] at h)) | (refine br_beq (fun h => ?_) (fun h => ?_) <;> (try simp only [] at h)) | refine br_split (fun h => ?_) (fun h => ?_) | fail) | ((with_reducible show (acc4 _ _).upd _ _ _ = _); first | refine acc4_upd_ok (by omega) ?_ | fail) | ((with_reducible show (acc4 _ _).get _ _ = _); first | refine acc4_get_same (by omega) ?_ | refine acc4_get_other (by omega) (by omega) (by omega) ?_ | refine acc4_get_ok (by omega) (by assumption) ?_ | fail) | refine opt3_split (fun h => ?_) (fun kind num tl h => ?_) | refine int_split (fun a h => ?_) (fun a h => ?_) | fail)
    conv => lhs; whnf
    refine askP_ok ⟨rfl, hl⟩ ?_
    rw [h2]
    repeat' ((conv => lhs; whnf); first | ((with_reducible show valK _ _ = _); first | ((conv => lhs; arg 1; whnf); refine valK_ok ?_) | fail) | ((with_reducible show listK _ _ = _); first | ((conv => lhs; arg 1; whnf); first | refine listK_cons ?_ | refine listK_nil ?_) | fail) | ((with_reducible show forceB _ _ = _); first | refine forceB_ok ?_ | fail) | ((with_reducible show forceN _ _ = _); first | refine forceN_add ?_ | refine forceN_sub ?_ | refine forceN_suc ?_ | refine forceN_part ?_ | refine forceN_byte ?_ | refine forceN_ok ?_ | fail) | ((with_reducible show forceZ _ _ = _); first | refine forceZ_add ?_ | refine forceZ_mul (by (try simp only [maxK]); omega) ?_ | refine forceZ_sub ?_ | refine forceZ_ok ?_ | fail) | ((with_reducible show rowAt _ _ _ = _); first | refine rowAt_ok (byteRows_get (by (try simp only [maxK]); omega)) ?_ | (apply rowAt_ok; (focus assumption)) | fail) | ((with_reducible show Bool.rec (motive := fun _ => AnsT) _ _ _ = _); first | refine br_true (Nat.beq_refl _) ?_ | refine br_true (by assumption) ?_ | refine br_false (by assumption) ?_ | refine br_max (by (try simp only [maxK]); omega) ?_ | refine br_ble_t (by (try simp only [maxK]); omega) ?_ | refine br_ble_f (by (try simp only [maxK]); omega) ?_ | refine br_beq_f (by (try simp only [maxK]); omega) ?_ | refine br_true (by simp only [Bool.and_eq_true, Nat.ble_eq]; (try simp only []); omega) ?_ | (refine br_ble (fun h => ?_) (fun h => ?_) <;> (try simp only [] at h)) | (refine br_beq (fun h => ?_) (fun h => ?_) <;> (try simp only [] at h)) | refine br_split (fun h => ?_) (fun h => ?_) | fail) | ((with_reducible show (acc4 _ _).upd _ _ _ = _); first | refine acc4_upd_ok (by omega) ?_ | fail) | ((with_reducible show (acc4 _ _).get _ _ = _); first | refine acc4_get_same (by omega) ?_ | refine acc4_get_other (by omega) (by omega) (by omega) ?_ | refine acc4_get_ok (by omega) (by assumption) ?_ | fail) | refine opt3_split (fun h => ?_) (fun kind num tl h => ?_) | refine int_split (fun a h => ?_) (fun a h => ?_) | fail)
    all_goals (try (conv => lhs; whnf))
    exact okIf_ok (frz_bool rfl)
  · rw [h1]
    repeat' ((conv => lhs; whnf); first | ((with_reducible show valK _ _ = _); first | ((conv => lhs; arg 1; whnf); refine valK_ok ?_) | fail) | ((with_reducible show listK _ _ = _); first | ((conv => lhs; arg 1; whnf); first | refine listK_cons ?_ | refine listK_nil ?_) | fail) | ((with_reducible show forceB _ _ = _); first | refine forceB_ok ?_ | fail) | ((with_reducible show forceN _ _ = _); first | refine forceN_add ?_ | refine forceN_sub ?_ | refine forceN_suc ?_ | refine forceN_part ?_ | refine forceN_byte ?_ | refine forceN_ok ?_ | fail) | ((with_reducible show forceZ _ _ = _); first | refine forceZ_add ?_ | refine forceZ_mul (by (try simp only [maxK]); omega) ?_ | refine forceZ_sub ?_ | refine forceZ_ok ?_ | fail) | ((with_reducible show rowAt _ _ _ = _); first | refine rowAt_ok (byteRows_get (by (try simp only [maxK]); omega)) ?_ | (apply rowAt_ok; (focus assumption)) | fail) | ((with_reducible show Bool.rec (motive := fun _ => AnsT) _ _ _ = _); first | refine br_true (Nat.beq_refl _) ?_ | refine br_true (by assumption) ?_ | refine br_false (by assumption) ?_ | refine br_max (by (try simp only [maxK]); omega) ?_ | refine br_ble_t (by (try simp only [maxK]); omega) ?_ | refine br_ble_f (by (try simp only [maxK]); omega) ?_ | refine br_beq_f (by (try simp only [maxK]); omega) ?_ | refine br_true (by simp only [Bool.and_eq_true, Nat.ble_eq]; (try simp only []); omega) ?_ | (refine br_ble (fun h => ?_) (fun h => ?_) <;> (try simp only [] at h)) | (refine br_beq (fun h => ?_) (fun h => ?_) <;> (try simp only [] at h)) | refine br_split (fun h => ?_) (fun h => ?_) | fail) | ((with_reducible show (acc4 _ _).upd _ _ _ = _); first | refine acc4_upd_ok (by omega) ?_ | fail) | ((with_reducible show (acc4 _ _).get _ _ = _); first | refine acc4_get_same (by omega) ?_ | refine acc4_get_other (by omega) (by omega) (by omega) ?_ | refine acc4_get_ok (by omega) (by assumption) ?_ | fail) | refine opt3_split (fun h => ?_) (fun kind num tl h => ?_) | refine int_split (fun a h => ?_) (fun a h => ?_) | fail)
    conv => lhs; whnf
    refine askP_ok ⟨rfl, hl⟩ ?_
    rw [h2]
    repeat' ((conv => lhs; whnf); first | ((with_reducible show valK _ _ = _); first | ((conv => lhs; arg 1; whnf); refine valK_ok ?_) | fail) | ((with_reducible show listK _ _ = _); first | ((conv => lhs; arg 1; whnf); first | refine listK_cons ?_ | refine listK_nil ?_) | fail) | ((with_reducible show forceB _ _ = _); first | refine forceB_ok ?_ | fail) | ((with_reducible show forceN _ _ = _); first | refine forceN_add ?_ | refine forceN_sub ?_ | refine forceN_suc ?_ | refine forceN_part ?_ | refine forceN_byte ?_ | refine forceN_ok ?_ | fail) | ((with_reducible show forceZ _ _ = _); first | refine forceZ_add ?_ | refine forceZ_mul (by (try simp only [maxK]); omega) ?_ | refine forceZ_sub ?_ | refine forceZ_ok ?_ | fail) | ((with_reducible show rowAt _ _ _ = _); first | refine rowAt_ok (byteRows_get (by (try simp only [maxK]); omega)) ?_ | (apply rowAt_ok; (focus assumption)) | fail) | ((with_reducible show Bool.rec (motive := fun _ => AnsT) _ _ _ = _); first | refine br_true (Nat.beq_refl _) ?_ | refine br_true (by assumption) ?_ | refine br_false (by assumption) ?_ | refine br_max (by (try simp only [maxK]); omega) ?_ | refine br_ble_t (by (try simp only [maxK]); omega) ?_ | refine br_ble_f (by (try simp only [maxK]); omega) ?_ | refine br_beq_f (by (try simp only [maxK]); omega) ?_ | refine br_true (by simp only [Bool.and_eq_true, Nat.ble_eq]; (try simp only []); omega) ?_ | (refine br_ble (fun h => ?_) (fun h => ?_) <;> (try simp only [] at h)) | (refine br_beq (fun h => ?_) (fun h => ?_) <;> (try simp only [] at h)) | refine br_split (fun h => ?_) (fun h => ?_) | fail) | ((with_reducible show (acc4 _ _).upd _ _ _ = _); first | refine acc4_upd_ok (by omega) ?_ | fail) | ((with_reducible show (acc4 _ _).get _ _ = _); first | refine acc4_get_same (by omega) ?_ | refine acc4_get_other (by omega) (by omega) (by omega) ?_ | refine acc4_get_ok (by omega) (by assumption) ?_ | fail) | refine opt3_split (fun h => ?_) (fun kind num tl h => ?_) | refine int_split (fun a h => ?_) (fun a h => ?_) | fail)
    all_goals (try (conv => lhs; whnf))
    exact okIf_ok (frz_bool rfl)

end Go.Proofs.YtibmbbogjkecoaaDoor.M

/- columbary/lex: key words and names, once strings.Fields is told. -/
namespace Go.Proofs.YtibmbbogjkecoaaDoor.M
open Go
set_option linter.unusedSimpArgs false
set_option linter.unusedVariables false
variable {ρ : Nat → Value}

def keysN : Nat := 87763639457604419360672521790547939781584025823648649163781033715831281697000981908506759742293375392595119302019499681933711561941857393343782155848846502153202115655288514420360027375740662439317617673291519912426664250442951207510617883689969162399520891946893920055213434953597667928921718948193029313902706773704014243895407469
/-- What Fields answers of the key words' text. -/
def FieldsTold (ρ : Nat → Value) : Prop := Says ρ Tryd.prog 66 [.ps 138 keysN] (.ro 1 (ktab.map fun p => [.ps p.1 p.2]))

noncomputable def ovFields : OvT := fun args _ hp nx kr _ => match args with
  | [.ps l x] => must (Nat.beq l 138) (must (Nat.beq x keysN) (kr (.ro 1 (ktab.map fun p => [.ps p.1 p.2])) hp nx))
  | _ => .err 1
theorem ovFields_ok (hF : FieldsTold ρ) : OvOK ρ Tryd.prog 66 ovFields := by
  intro args forb hp nx kr kp h0
  unfold ovFields at h0
  split at h0
  · rename_i l x
    obtain ⟨h1, g1⟩ := must_inv h0
    obtain ⟨h2, g2⟩ := must_inv g1
    replace h1 := Nat.eq_of_beq_eq_true h1
    replace h2 := Nat.eq_of_beq_eq_true h2
    subst h1 h2
    refine (hF (absO hp) nx (inL forb)).mono ?_
    rintro o O m ⟨e1, e2, e3⟩
    subst e1 e2 e3
    exact ⟨hp, rfl, g2⟩
  · exact Ans.no h0

noncomputable def ovContains (tab : List (Nat × Nat)) : OvT := fun args _ hp nx kr _ => match args with
  | [.ro 1 rows, .ps len n] => askP (rows = tab.map (fun p => [V.ps p.1 p.2]) ∧ len ≤ 140737488355328) (boolK (tab.any (isW len n)) (kr (.bool true) hp nx) (kr (.bool false) hp nx))
  | _ => .err 1
theorem ovContains_ok {tab : List (Nat × Nat)} (ht : tab.length ≤ 140737488355328) : OvOK ρ Tryd.prog 65 (ovContains tab) := by
  intro args forb hp nx kr kp h0
  unfold ovContains at h0
  split at h0
  · rename_i rows len n
    obtain ⟨⟨rfl, h2⟩, h3⟩ := askP_inv h0
    refine (contains_says tab len n h2 ht (absO hp) nx (inL forb)).mono ?_
    rintro o O m ⟨e1, e2, e3⟩
    subst e1 e2 e3
    rcases boolK_inv h3 with ⟨h4, h5⟩ | ⟨h4, h5⟩ <;> rw [h4] <;> exact ⟨hp, rfl, h5⟩
  · exact Ans.no h0

noncomputable def ovW (p : Nat → Nat → Bool) : OvT := ovF fun
  | [.ps len n] => some (Nat.ble len 140737488355328, .bool (p len n))
  | _ => none
theorem ovW_ok {p : Nat → Nat → Bool} {f : FuncId} (hs : ∀ len n, len ≤ 140737488355328 → Says ρ Tryd.prog f [.ps len n] (.bool (p len n))) : OvOK ρ Tryd.prog f (ovW p) := ov_says fun args v h => by
  split at h
  · injection h with h
    injection h with g1 g2
    subst g2
    exact hs _ _ (Nat.le_of_ble_eq_true g1)
  · cases h

theorem keys_words : (ktab.all fun p => wordM p.1 p.2) = true := by decide +kernel
/-- A key word is a word. -/
theorem key_word {l n : Nat} (h : keyM l n = true) : wordM l n = true := by
  unfold keyM at h
  obtain ⟨p, hp, hw⟩ := List.any_eq_true.mp h
  unfold isW at hw
  simp only [Bool.and_eq_true, Nat.beq_eq] at hw
  rw [hw.1, hw.2]
  exact List.all_eq_true.mp keys_words p hp

attribute [local irreducible] forceN forceZ forceB okIf roundsK valK rowAt listK
attribute [local irreducible] askP wordM keyM toksF
set_option maxRecDepth 100000

def lkeyM (l n : Nat) : Bool := wordM l n && keyM l n
def lnameM (l n : Nat) : Bool := wordM l n && !lkeyM l n

set_option maxHeartbeats 4000000 in
theorem lkey_says (hF : FieldsTold ρ) (len n : Nat) (hl : len ≤ 140737488355328) : Says ρ Tryd.prog 63 [.ps len n] (.bool (lkeyM len n)) := by
  have hk : ktab.any (isW len n) = keyM len n := by unfold keyM; rfl
  refine says_run (call := over 62 (ovW wordM) (over 66 ovFields (over 65 (ovContains ktab) call0))) follows globL_ok (over_ok (ovW_ok word_says) (over_ok (ovFields_ok hF) (over_ok (ovContains_ok (by decide)) call0_ok))) (arg1 rfl) ?_
  unfold lkeyM
  rw [← hk]
  repeat' ((conv => lhs; whnf); first | ((with_reducible show valK _ _ = _); first | ((conv => lhs; arg 1; whnf); refine valK_ok ?_) | fail) | ((with_reducible show listK _ _ = _); first | ((conv => lhs; arg 1; whnf); first | refine listK_cons ?_ | refine listK_nil ?_) | fail) | ((with_reducible show forceB _ _ = _); first | refine forceB_ok ?_ | fail) | ((with_reducible show forceN _ _ = _); first | refine forceN_add ?_ | refine forceN_sub ?_ | refine forceN_suc ?_ | refine forceN_part ?_ | refine forceN_byte ?_ | refine forceN_ok ?_ | fail) | ((with_reducible show forceZ _ _ = _); first | refine forceZ_add ?_ | refine forceZ_mul (by (try simp only [maxK]); omega) ?_ | refine forceZ_sub ?_ | refine forceZ_ok ?_ | fail) | ((with_reducible show rowAt _ _ _ = _); first | refine rowAt_ok (byteRows_get (by (try simp only [maxK]); omega)) ?_ | (apply rowAt_ok; (focus assumption)) | fail) | ((with_reducible show Bool.rec (motive := fun _ => AnsT) _ _ _ = _); first | refine br_true (Nat.beq_refl _) ?_ | refine br_true (by assumption) ?_ | refine br_false (by assumption) ?_ | refine br_max (by (try simp only [maxK]); omega) ?_ | refine br_ble_t (by (try simp only [maxK]); omega) ?_ | refine br_ble_f (by (try simp only [maxK]); omega) ?_ | refine br_beq_f (by (try simp only [maxK]); omega) ?_ | refine br_true (by simp only [Bool.and_eq_true, Nat.ble_eq]; (try simp only []); omega) ?_ | (refine br_ble (fun h => ?_) (fun h => ?_) <;> (try simp only [] at h)) | (refine br_beq (fun h => ?_) (fun h => ?_) <;> (try simp only [] at h)) | refine br_split (fun h => ?_) (fun h => ?_) | fail) | ((with_reducible show (acc4 _ _).upd _ _ _ = _); first | refine acc4_upd_ok (by omega) ?_ | fail) | ((with_reducible show (acc4 _ _).get _ _ = _); first | refine acc4_get_same (by omega) ?_ | refine acc4_get_other (by omega) (by omega) (by omega) ?_ | refine acc4_get_ok (by omega) (by assumption) ?_ | fail) | refine opt3_split (fun h => ?_) (fun kind num tl h => ?_) | refine int_split (fun a h => ?_) (fun a h => ?_) | fail)
  all_goals (try (conv => lhs; whnf))
  · refine askP_ok ⟨rfl, hl⟩ ?_
    repeat' ((conv => lhs; whnf); first | ((with_reducible show valK _ _ = _); first | ((conv => lhs; arg 1; whnf); refine valK_ok ?_) | fail) | ((with_reducible show listK _ _ = _); first | ((conv => lhs; arg 1; whnf); first | refine listK_cons ?_ | refine listK_nil ?_) | fail) | ((with_reducible show forceB _ _ = _); first | refine forceB_ok ?_ | fail) | ((with_reducible show forceN _ _ = _); first | refine forceN_add ?_ | refine forceN_sub ?_ | refine forceN_suc ?_ | refine forceN_part ?_ | refine forceN_byte ?_ | refine forceN_ok ?_ | fail) | ((with_reducible show forceZ _ _ = _); first | refine forceZ_add ?_ | refine forceZ_mul (by (try simp only [maxK]); omega) ?_ | refine forceZ_sub ?_ | refine forceZ_ok ?_ | fail) | ((with_reducible show rowAt _ _ _ = _); first | refine rowAt_ok (byteRows_get (by (try simp only [maxK]); omega)) ?_ | (apply rowAt_ok; (focus assumption)) | fail) | ((with_reducible show Bool.rec (motive := fun _ => AnsT) _ _ _ = _); first | refine br_true (Nat.beq_refl _) ?_ | refine br_true (by assumption) ?_ | refine br_false (by assumption) ?_ | refine br_max (by (try simp only [maxK]); omega) ?_ | refine br_ble_t (by (try simp only [maxK]); omega) ?_ | refine br_ble_f (by (try simp only [maxK]); omega) ?_ | refine br_beq_f (by (try simp only [maxK]); omega) ?_ | refine br_true (by simp only [Bool.and_eq_true, Nat.ble_eq]; (try simp only []); omega) ?_ | (refine br_ble (fun h => ?_) (fun h => ?_) <;> (try simp only [] at h)) | (refine br_beq (fun h => ?_) (fun h => ?_) <;> (try simp only [] at h)) | refine br_split (fun h => ?_) (fun h => ?_) | fail) | ((with_reducible show (acc4 _ _).upd _ _ _ = _); first | refine acc4_upd_ok (by omega) ?_ | fail) | ((with_reducible show (acc4 _ _).get _ _ = _); first | refine acc4_get_same (by omega) ?_ | refine acc4_get_other (by omega) (by omega) (by omega) ?_ | refine acc4_get_ok (by omega) (by assumption) ?_ | fail) | refine opt3_split (fun h => ?_) (fun kind num tl h => ?_) | refine int_split (fun a h => ?_) (fun a h => ?_) | fail)
    all_goals (try (conv => lhs; whnf))
    all_goals exact okIf_ok (frz_bool (by simp_all))
  · exact okIf_ok (frz_bool (by rw [h]; rfl))

set_option maxHeartbeats 4000000 in
theorem lname_says (hF : FieldsTold ρ) (len n : Nat) (hl : len ≤ 140737488355328) : Says ρ Tryd.prog 58 [.ps len n] (.bool (lnameM len n)) := by
  refine says_run (call := over 62 (ovW wordM) (over 63 (ovW lkeyM) call0)) follows globL_ok (over_ok (ovW_ok word_says) (over_ok (ovW_ok (lkey_says hF)) call0_ok)) (arg1 rfl) ?_
  unfold lnameM
  repeat' ((conv => lhs; whnf); first | ((with_reducible show valK _ _ = _); first | ((conv => lhs; arg 1; whnf); refine valK_ok ?_) | fail) | ((with_reducible show listK _ _ = _); first | ((conv => lhs; arg 1; whnf); first | refine listK_cons ?_ | refine listK_nil ?_) | fail) | ((with_reducible show forceB _ _ = _); first | refine forceB_ok ?_ | fail) | ((with_reducible show forceN _ _ = _); first | refine forceN_add ?_ | refine forceN_sub ?_ | refine forceN_suc ?_ | refine forceN_part ?_ | refine forceN_byte ?_ | refine forceN_ok ?_ | fail) | ((with_reducible show forceZ _ _ = _); first | refine forceZ_add ?_ | refine forceZ_mul (by (try simp only [maxK]); omega) ?_ | refine forceZ_sub ?_ | refine forceZ_ok ?_ | fail) | ((with_reducible show rowAt _ _ _ = _); first | refine rowAt_ok (byteRows_get (by (try simp only [maxK]); omega)) ?_ | (apply rowAt_ok; (focus assumption)) | fail) | ((with_reducible show Bool.rec (motive := fun _ => AnsT) _ _ _ = _); first | refine br_true (Nat.beq_refl _) ?_ | refine br_true (by assumption) ?_ | refine br_false (by assumption) ?_ | refine br_max (by (try simp only [maxK]); omega) ?_ | refine br_ble_t (by (try simp only [maxK]); omega) ?_ | refine br_ble_f (by (try simp only [maxK]); omega) ?_ | refine br_beq_f (by (try simp only [maxK]); omega) ?_ | refine br_true (by simp only [Bool.and_eq_true, Nat.ble_eq]; (try simp only []); omega) ?_ | (refine br_ble (fun h => ?_) (fun h => ?_) <;> (try simp only [] at h)) | (refine br_beq (fun h => ?_) (fun h => ?_) <;> (try simp only [] at h)) | refine br_split (fun h => ?_) (fun h => ?_) | fail) | ((with_reducible show (acc4 _ _).upd _ _ _ = _); first | refine acc4_upd_ok (by omega) ?_ | fail) | ((with_reducible show (acc4 _ _).get _ _ = _); first | refine acc4_get_same (by omega) ?_ | refine acc4_get_other (by omega) (by omega) (by omega) ?_ | refine acc4_get_ok (by omega) (by assumption) ?_ | fail) | refine opt3_split (fun h => ?_) (fun kind num tl h => ?_) | refine int_split (fun a h => ?_) (fun a h => ?_) | fail)
  all_goals (try (conv => lhs; whnf))
  all_goals exact okIf_ok (frz_bool (by simp_all))

end Go.Proofs.YtibmbbogjkecoaaDoor.M

/- strings.Fields of the key words: a run. -/
namespace Go.Proofs.YtibmbbogjkecoaaDoor.M
open Go
set_option linter.unusedSimpArgs false
set_option linter.unusedVariables false
variable {ρ : Nat → Value}

set_option maxRecDepth 100000 in
theorem fields_told : FieldsTold ρ :=
  says_told (call := call0) follows globL_ok call0_ok (arg1 rfl) (by kernel_rfl)

end Go.Proofs.YtibmbbogjkecoaaDoor.M

/- What is told in closed runs of patterns' texts: the tokens, names. -/
namespace Go.Proofs.YtibmbbogjkecoaaDoor.M
open Go
variable {ρ : Nat → Value}
noncomputable def ovPat (c : CallT) : CallT := over 13 ovToks (over 58 (ovW lnameM) c)
theorem ovPat_ok : ∀ c, CallOK ρ Tryd.prog c → CallOK ρ Tryd.prog (ovPat c) := fun c hc => over_ok (ovToks_ok tokens_says) (over_ok (ovW_ok (lname_says fields_told)) hc)
noncomputable def runPat : CallT := runW Tryd.prog glob ovPat 120
theorem runPat_ok : CallOK ρ Tryd.prog runPat := runW_ok follows glob_ok ovPat_ok 120
end Go.Proofs.YtibmbbogjkecoaaDoor.M

/- A slice that is handed over is given up: from then on nobody writes it. -/
namespace Go.Proofs.YtibmbbogjkecoaaDoor.M
open Go Go.RowKit
set_option linter.unusedSimpArgs false
set_option linter.unusedVariables false

variable {ρ : Nat → Value} {P : Program}

theorem QCalls.freeze {f : FuncId} {args args' : List V} {objs : Objs} {k next : Nat} {forb : CellP} {R : Out → Objs → Nat → Prop} (hk : ∀ r c, ¬ forb k r c)
    (hargs : args'.length = args.length ∧ ∀ (i : Nat) (q q' : V), args[i]? = some q → args'[i]? = some q' → q' = q ∨ Frz (fun j => j = k) objs q q')
    (h : QCalls ρ P f args' (Objs.put objs k none) next forb R) : QCalls ρ P f args objs next forb R := by
  intro w A T vals hm htop hsz hvals
  have hput : ∀ (j : Nat) (ob : Ob), Objs.put objs k none j = some ob → j ≠ k ∧ objs j = some ob := by
    intro j ob hj
    unfold Objs.put at hj
    split at hj
    · cases hj
    · exact ⟨by assumption, hj⟩
  have hliveO : ∀ b, LiveO T (Objs.put objs k none) b → ∃ (j : Nat) (ob : Ob) (p : Pl), ¬ (j = k) ∧ objs j = some ob ∧ T j = some p ∧ p.b = b := by
    rintro b ⟨j, ob, p, h1, h2, h3⟩
    obtain ⟨g1, g2⟩ := hput j ob h1
    exact ⟨j, ob, p, g1, g2, h2, h3⟩
  have hlive : ∀ b, Live A T (Objs.put objs k none) b → Live A T objs b := fun b hb => hb.imp id fun g => by
    obtain ⟨j, ob, p, _, g2, g3, g4⟩ := hliveO b g
    exact ⟨j, ob, p, g2, g3, g4⟩
  have hM : HoldsM ρ w A T (Objs.put objs k none) := by
    refine ⟨hm.avoid, hm.low, fun j ob hj => ?_, fun i j x y p q hi hj hp hq hb => ?_, hm.glob.congr hlive⟩
    · obtain ⟨_, g2⟩ := hput j ob hj
      obtain ⟨p, f1, f2, f3⟩ := hm.obj j ob g2
      exact ⟨p, f1, f2, f3.later rfl fun q v hq => hq.congr hlive⟩
    · exact hm.inj i j x y p q (hput i x hi).2 (hput j y hj).2 hp hq hb
  refine (h w A T vals hM (fun j hj => ⟨(htop j hj).1, ?_⟩) (by rw [hsz]; exact hargs.1.symm) (fun i q' hq' => ?_)).mono ?_
  · cases e : Objs.put objs k none j with
    | none => rfl
    | some ob =>
      have := (hput j ob e).2
      rw [(htop j hj).2] at this
      cases this
  · have hi : i < args.length := by have := lt_of_get hq'; omega
    have hq := List.getElem?_eq_getElem hi
    have hv := hvals i _ hq
    rcases hargs.2 i _ q' hq hq' with e | e
    · rw [e]; exact hv.congr hlive
    · exact e.rep hm (fun b hb => hb.imp id (hliveO b)) hv
  · rintro e w' ⟨out, O, m, T', h1, h2, h3⟩
    refine ⟨out, O, m, T', h1, ⟨h2.ext, h2.mem, h2.top, fun j p hj hp => ?_, fun j hj ho => ?_, fun j r c hf ho => ?_, h2.keep.mono fun b _ hb => ?_, fun j r c p hf ho hp hn => ?_⟩, h3⟩
    · refine (h2.fresh j p hj hp).imp id fun g => ?_
      obtain ⟨j2, ob, p2, _, g2, g3, g4⟩ := hliveO _ g
      exact ⟨j2, ob, p2, g2, g3, g4⟩
    · have := h2.old j hj ho
      cases e : Objs.put objs k none j with
      | none => exact (this e).elim
      | some ob => rw [(hput j ob e).2]; simp
    · refine h2.stay j r c hf ?_
      unfold Objs.put
      split
      · rename_i e
        subst e
        exact (hk r c hf).elim
      · exact ho
    · obtain ⟨j2, ob, p2, _, g2, g3, g4⟩ := hliveO b hb
      exact ⟨j2, ob, p2, g2, g3, g4⟩
    · refine h2.cells j r c p hf ?_ hp hn
      unfold Objs.put
      split
      · rename_i e
        subst e
        exact (hk r c hf).elim
      · exact ho

def flatRows (rows : List (List V)) : Bool := rows.all fun row => row.all fun q => q.flat && q.one
theorem flatRows_ok {rows : List (List V)} (h : flatRows rows = true) : ∀ row ∈ rows, ∀ q ∈ row, q.flat = true ∧ q.one = true := fun row hr q hq => by
  have := List.all_eq_true.mp (List.all_eq_true.mp h row hr) q hq
  rwa [Bool.and_eq_true] at this

theorem frz_rowsN {O : Objs} {j off len : Nat} {full : Bool} {x : Ob} {rows : List (List V)} (hj : O j = some x) (hmp : x.mp = false) (hl : rows.length = len) (hr : ∀ r, r < len → x.row (off + r) = rows[r]?) (hf : ∀ row ∈ rows, ∀ q ∈ row, q.flat = true ∧ q.one = true) :
    Frz (fun i => i = j) O (.sl j off len full) (.ro x.s rows) := by
  refine .cell (.sl j off len full x rows (fun r => (rows[r]?).getD []) rfl hj hmp hl (fun r row' h => ?_) fun r row' h c q q' h1 h2 => ?_)
  · have hlt := lt_of_get h
    rw [h]
    exact ⟨by rw [hr r (by omega), h]; rfl, rfl⟩
  · have h1 : ((rows[r]?).getD [])[c]? = some q := h1
    rw [h] at h1
    have h1 : row'[c]? = some q := h1
    rw [h1] at h2
    cases h2
    have := hf row' (List.mem_of_getElem? h) q (List.mem_of_getElem? h1)
    exact .same q this.2 this.1

/-- Argument i, a slice of rows of s cells, is given up. -/
noncomputable def frzA (i s : Nat) (c : OvT) : OvT := fun args forb hp nx kr kp => (nth i).get args fun q => q.onNilS
  (fun k off len _ => noneK k forb ((acc4 KOb k).get hp fun ob => ob.ofS s (rowsK ob len off fun rows => must (flatRows rows) ((acc4 KOb k).upd hp .no fun hp' => c (args.set i (.ro s rows)) forb hp' nx kr kp))))
  (fun _ _ => c args forb hp nx kr kp) (fun _ => c args forb hp nx kr kp)

theorem frzA_ok {f : FuncId} {i s : Nat} {c : OvT} (h : OvOK ρ P f c) : OvOK ρ P f (frzA i s c) := by
  intro args forb hp nx kr kp h0
  obtain ⟨q, hq, h0⟩ := nth_inv h0
  rcases V.onNilS_inv h0 with ⟨k, off, len, full, rfl, h1⟩ | ⟨_, _, _, h1⟩ | ⟨_, _, h1⟩
  · obtain ⟨hn, h1⟩ := noneK_inv h1
    obtain ⟨ob, h2, h1⟩ := ob_inv h1
    obtain ⟨⟨x, h3, hmp, h4⟩, h1⟩ := KOb.ofS_inv h1
    obtain ⟨rows, h5, h6, h1⟩ := rowsK_inv h3 h1
    obtain ⟨h7, h1⟩ := must_inv h1
    obtain ⟨hlt, h1⟩ := acc4_upd h1
    have h8 := h _ _ _ _ _ _ h1
    rw [absO_put hlt] at h8
    refine QCalls.freeze hn ⟨by simp, fun j q1 q2 g1 g2 => ?_⟩ h8
    rw [List.getElem?_set] at g2
    split at g2
    · rename_i e
      subst e
      rw [hq] at g1
      cases g1
      split at g2
      · cases g2
        right
        subst h4
        exact (frz_rowsN (h2.trans h3) hmp h5 h6 (flatRows_ok h7))
      · cases g2
    · left
      rw [g1] at g2
      exact (Option.some.inj g2).symm
  · exact h _ _ _ _ _ _ h1
  · exact h _ _ _ _ _ _ h1

/-! ### What is told, entry by entry -/

def eqA : V → V → Bool
  | .ro s rows, .ro s' rows' => Nat.beq s s' && eqRowsL rows rows'
  | a, b => eqFl a b
theorem eqA_ok {a b : V} (h : eqA a b = true) : a = b := by
  unfold eqA at h
  split at h
  · simp only [Bool.and_eq_true, Nat.beq_eq] at h
    obtain ⟨rfl, h2⟩ := h
    rw [(eqRowsL_ok h2).1]
  · exact (eqFl_ok h).1
def eqArgs : List V → List V → Bool
  | [], [] => true
  | a :: l, b :: m => eqA a b && eqArgs l m
  | _, _ => false
theorem eqArgs_ok : ∀ {a b : List V}, eqArgs a b = true → a = b
  | [], [], _ => rfl
  | a :: l, b :: m, h => by
    simp only [eqArgs, Bool.and_eq_true] at h
    rw [eqA_ok h.1, eqArgs_ok h.2]
  | [], _ :: _, h => by cases h
  | _ :: _, [], h => by cases h

noncomputable def ovTab (T : List (List V × V)) : OvT := fun args _ hp nx kr _ => List.rec (motive := fun _ => AnsT) (.err 163) (fun e _ ih => boolK (eqArgs args e.1) (kr e.2 hp nx) ih) T
theorem ovTab_ok {f : FuncId} {T : List (List V × V)} (h : ∀ e ∈ T, Says ρ P f e.1 e.2) : OvOK ρ P f (ovTab T) := by
  intro args forb hp nx kr kp h0
  unfold ovTab at h0
  induction T with
  | nil => exact Ans.no h0
  | cons e T ih =>
    rcases boolK_inv h0 with ⟨h1, h2⟩ | ⟨_, h2⟩
    · rw [eqArgs_ok h1]
      refine (h e List.mem_cons_self (absO hp) nx (inL forb)).mono ?_
      rintro o O m ⟨e1, e2, e3⟩
      subst e1 e2 e3
      exact ⟨hp, rfl, h2⟩
    · exact ih (fun x hx => h x (List.mem_cons_of_mem _ hx)) h2

theorem isOk_of {a : Ans} (h : a = .ok) : isOk a = true := by subst h; rfl
theorem says_toldK (hm : P.follows .mixedOrders = true) {G : Gl} (hG : GOK' P G) {call : CallT} (hc : CallOK ρ P call) {f : FuncId} {args : List V} {v' : V} (hargs : ∀ q ∈ args, Arg2 [] q q)
    (h : (bdy P G f).run call args [] hp0 0 (fun v hp _ => isT v hp v') (fun _ _ _ => .err 8) = .ok) : Says ρ P f args v' := says_toldT hm hG hc hargs (isOk_of h)

/-- The runs behind a table. -/
noncomputable def runsTab (P : Program) (G : Gl) (call : CallT) (f : FuncId) (T : List (List V × V)) : Bool :=
  T.all fun e => (e.1.all V.flat) && isOk ((bdy P G f).run call e.1 [] hp0 0 (fun v hp _ => isT v hp e.2) (fun _ _ _ => .err 8))
theorem runsTab_ok (hm : P.follows .mixedOrders = true) {G : Gl} (hG : GOK' P G) {call : CallT} (hc : CallOK ρ P call) {f : FuncId} {T : List (List V × V)} (h : runsTab P G call f T = true) : ∀ e ∈ T, Says ρ P f e.1 e.2 := by
  intro e he
  have := List.all_eq_true.mp h e he
  rw [Bool.and_eq_true] at this
  exact says_toldT hm hG hc (fun q hq => .flat _ (List.all_eq_true.mp this.1 q hq)) this.2

end Go.Proofs.YtibmbbogjkecoaaDoor.M

/- A law's arguments by content: texts, slices of numbers, of texts, of structs; and the call of a law that says true. -/
namespace Go.Proofs.YtibmbbogjkecoaaDoor.M
open Go Go.ChangeShapes Go.WideShapes Go.ChangeAt Go.RowKit
set_option linter.unusedVariables false
set_option linter.unusedSimpArgs false

/-- A slice of things of s cells each, that are read as something of α. -/
theorem rows_arg {α : Type} (row : α → List V) (val : α → List Value) {P : Program} {H : Type} {enc : TypeId × Value → H} {W : World} {t e : TypeId} {v : Value} {d : DataW H} {ps : List MemPlace} {base s b : Nat} (ht : P.underlying t = some (.slice e)) (hc : P.cellsOf e = s) (hpos : 0 < b)
    (hlen : ∀ x, (row x).length = s ∧ (val x).length = s) (hone : ∀ x q, q ∈ row x → q.one = true)
    (hrow : ∀ (ρ : Nat → Value) x (c : Nat) q u, (row x)[c]? = some q → (val x)[c]? = some u → RepP ρ W (fun _ => False) q u)
    (hread : ∀ n cs y, DataW.trod enc P W 0 (fun _ => true) true n e cs = some y → ∃ x, cs = val x)
    (hval : Value.okWide P W .any base t v) (h : DataW.Trod enc P W 0 (fun _ => true) true t v d ps) (hw : ∀ l r, d = .slice l r → (l.length + r.length) * b ≤ reachBytes) :
    ∃ l : List α, l.length ≤ 140737488355328 ∧ ∀ ρ : Nat → Value, RepP ρ W (fun _ => False) (.ro s (l.map row)) v := by
  obtain ⟨a0, len0, cap0, rfl⟩ := okWide_slice ht hval
  obtain ⟨fuel, hf⟩ := h
  rcases DataW.trod_slice ht hf with ⟨h1, h2⟩ | ⟨a, len, cap, elems, rest, n, _, h1, hx, hb, hl, hm, hel, hat, _, _⟩
  · simp only [Value.cells, List.cons.injEq, Value.slice.injEq, and_true] at h1
    obtain ⟨rfl, rfl, rfl⟩ := h1
    exact ⟨[], by simp, fun ρ => .nil s⟩
  · simp only [Value.cells, List.cons.injEq, Value.slice.injEq, and_true] at h1
    obtain ⟨rfl, rfl, rfl⟩ := h1
    have hok : World.has P W .any base a e cap0 := by
      have := hval
      unfold Value.okWide at this
      rw [ht] at this
      simp only at this
      unfold Cell.okWide at this
      rw [ht] at this
      simp only at this
      unfold Cell.ok at this
      rw [ht] at this
      simp only at this
      exact this.2.2
    obtain ⟨_, hsp, row0, cells, hsh, _⟩ := hok
    have hbl : a.block < W.heap.size := by
      unfold World.shape? at hsh
      cases hh : W.heap[a.block]? with
      | none => rw [hh] at hsh; cases hsh
      | some x => exact (Array.getElem?_eq_some_iff.mp hh).1
    have each : ∀ i, i < len0 → ∃ x, ∀ c u, (val x)[c]? = some u → W.cell? ⟨a.block, a.off + (i * s + c), none⟩ = some u := by
      intro i hi
      have h3 := hat i hi
      have h4 : elems[i]? = some (elems[i]'(by omega)) := List.getElem?_eq_getElem (by omega)
      rw [h4, hc, Option.bind_eq_some_iff] at h3
      obtain ⟨cs', hcs, hy⟩ := h3
      obtain ⟨x, rfl⟩ := hread _ _ _ hy
      refine ⟨x, fun c u hu => ?_⟩
      have hcl : c < s := by
        have := (List.getElem?_eq_some_iff.mp hu).1
        rw [(hlen x).2] at this
        exact this
      have h5 := (World.cells?_some hcs).2.2 c hcl
      rw [hu] at h5
      rw [← h5]
      obtain ⟨b, o, sp⟩ := a
      simp only at hsp
      subst hsp
      have e : (Addr.add (Addr.add ⟨b, o, none⟩ (i * s)) c) = ⟨b, o + (i * s + c), none⟩ := by
        unfold Addr.add
        by_cases h1 : i * s = 0 <;> by_cases h2 : c = 0 <;> simp [h1, h2] <;> omega
      rw [e]
    let pick : Fin len0 → α := fun i => Classical.choose (each i.1 i.2)
    have hpick : ∀ i : Fin len0, ∀ c u, (val (pick i))[c]? = some u → W.cell? ⟨a.block, a.off + (i.1 * s + c), none⟩ = some u := fun i => Classical.choose_spec (each i.1 i.2)
    refine ⟨List.ofFn pick, ?_, fun ρ => ?_⟩
    · have hd := congrArg Prod.fst hx
      have g1 := reachBytes_lt
      have e1 : (elems.map (·.1)).length = len0 := by simp [hel]
      have := hw _ _ hd
      rw [List.length_ofFn]
      rw [e1] at this
      have : len0 * b ≤ reachBytes := Nat.le_trans (Nat.mul_le_mul_right b (Nat.le_add_right _ _)) this
      have : len0 ≤ len0 * b := Nat.le_mul_of_pos_right _ hpos
      omega
    · have get : ∀ r rw', ((List.ofFn pick).map row)[r]? = some rw' → ∃ hr : r < len0, rw' = row (pick ⟨r, hr⟩) := by
        intro r rw' hr
        rw [List.getElem?_map] at hr
        obtain ⟨x, hx1, rfl⟩ := Option.map_eq_some_iff.mp hr
        have hlt : r < len0 := by simpa using (List.getElem?_eq_some_iff.mp hx1).1
        refine ⟨hlt, ?_⟩
        have := (List.getElem?_eq_some_iff.mp hx1).2
        rw [List.getElem_ofFn] at this
        rw [this]
      have key := RepP.ro (ρ := ρ) (w := W) (L := fun _ => False) s ((List.ofFn pick).map row) a.block a.off cap0
        (fun r c => if hr : r < len0 then ((val (pick ⟨r, hr⟩))[c]?).getD undef else undef) (fun h => h) hbl (by rw [List.length_map, List.length_ofFn]; exact hl)
        (fun rw' hr => by
          obtain ⟨x, _, rfl⟩ := List.mem_map.mp hr
          exact ⟨(hlen x).1, hone x⟩)
        (fun r rw' hr c q hq => by
          obtain ⟨hlt, rfl⟩ := get r rw' hr
          have hcl : c < (val (pick ⟨r, hlt⟩)).length := by
            have := (List.getElem?_eq_some_iff.mp hq).1
            rw [(hlen _).1] at this
            rw [(hlen _).2]
            exact this
          rw [dif_pos hlt, List.getElem?_eq_getElem hcl]
          exact hpick ⟨r, hlt⟩ c _ (List.getElem?_eq_getElem hcl))
        (fun r rw' hr c q hq => by
          obtain ⟨hlt, rfl⟩ := get r rw' hr
          have hcl : c < (val (pick ⟨r, hlt⟩)).length := by
            have := (List.getElem?_eq_some_iff.mp hq).1
            rw [(hlen _).1] at this
            rw [(hlen _).2]
            exact this
          rw [dif_pos hlt, List.getElem?_eq_getElem hcl]
          exact hrow ρ _ c q _ hq (List.getElem?_eq_getElem hcl))
      rw [List.length_map, List.length_ofFn] at key
      have ea : a = ⟨a.block, a.off, none⟩ := by
        obtain ⟨b, o, sp⟩ := a
        simp only at hsp
        subst hsp
        rfl
      rw [ea]
      exact key

theorem trod_int1 {P : Program} {H : Type} {enc : TypeId × Value → H} {W : World} {e : TypeId} (he : P.underlying e = some (.int .i64)) (n : Nat) (cs : List Value) (y : DataW H × List MemPlace) (h : DataW.trod enc P W 0 (fun _ => true) true n e cs = some y) : ∃ z : Int, cs = [.int .i64 z] := by
  obtain ⟨z, rfl, _⟩ := DataW.trod_int he h
  exact ⟨z, rfl⟩
theorem trod_str1 {P : Program} {H : Type} {enc : TypeId × Value → H} {W : World} {e : TypeId} (he : P.underlying e = some .string) (n : Nat) (cs : List Value) (y : DataW H × List MemPlace) (h : DataW.trod enc P W 0 (fun _ => true) true n e cs = some y) : ∃ s : ByteArray, cs = [.string s] := by
  obtain ⟨s, rfl, _⟩ := DataW.trod_string he h
  exact ⟨s, rfl⟩

/-- Numbers. -/
theorem ints_argP {P : Program} {H : Type} {enc : TypeId × Value → H} {W : World} {t e : TypeId} {v : Value} {d : DataW H} {ps : List MemPlace} {base : Nat} (ht : P.underlying t = some (.slice e)) (he : P.underlying e = some (.int .i64)) (hc : P.cellsOf e = 1)
    (hval : Value.okWide P W .any base t v) (h : DataW.Trod enc P W 0 (fun _ => true) true t v d ps) (hw : ∀ l r, d = .slice l r → (l.length + r.length) * 8 ≤ reachBytes) :
    ∃ l : List Int, l.length ≤ 140737488355328 ∧ ∀ ρ : Nat → Value, RepP ρ W (fun _ => False) (.ro 1 (l.map fun z => [.int .i64 z])) v :=
  rows_arg (fun z : Int => [.int .i64 z]) (fun z => [.int .i64 z]) ht hc (b := 8) (by omega) (fun x => ⟨rfl, rfl⟩) (fun x q hq => by simp at hq; subst hq; rfl)
    (fun ρ x c q u hq hu => by cases c with | zero => (simp at hq hu; subst hq hu; exact .int _ _) | succ c => simp at hq) (trod_int1 he) hval h hw
/-- Texts. -/
theorem strs_argP {P : Program} {H : Type} {enc : TypeId × Value → H} {W : World} {t e : TypeId} {v : Value} {d : DataW H} {ps : List MemPlace} {base : Nat} (ht : P.underlying t = some (.slice e)) (he : P.underlying e = some .string) (hc : P.cellsOf e = 1)
    (hval : Value.okWide P W .any base t v) (h : DataW.Trod enc P W 0 (fun _ => true) true t v d ps) (hw : ∀ l r, d = .slice l r → (l.length + r.length) * 16 ≤ reachBytes) :
    ∃ l : List ByteArray, l.length ≤ 140737488355328 ∧ ∀ ρ : Nat → Value, RepP ρ W (fun _ => False) (.ro 1 (l.map fun s => [.ps s.size (packL s.data.toList)])) v :=
  rows_arg (fun s : ByteArray => [.ps s.size (packL s.data.toList)]) (fun s => [.string s]) ht hc (b := 16) (by omega) (fun x => ⟨rfl, rfl⟩) (fun x q hq => by simp at hq; subst hq; rfl)
    (fun ρ x c q u hq hu => by cases c with | zero => (simp at hq hu; subst hq hu; exact repP_cv W _ (.string x)) | succ c => simp at hq) (trod_str1 he) hval h hw
set_option maxRecDepth 100000 in
theorem ints_argN {H : Type} {enc : TypeId × Value → H} {W : World} {v : Value} {d : DataW H} {ps : List MemPlace} {base : Nat}
    (hval : Value.okWide Tryd.prog W .any base 33 v) (h : DataW.Trod enc Tryd.prog W 0 (fun _ => true) true 33 v d ps) (hw : ∀ l r, d = .slice l r → (l.length + r.length) * 8 ≤ reachBytes) :
    ∃ l : List Int, l.length ≤ 140737488355328 ∧ ∀ ρ : Nat → Value, RepP ρ W (fun _ => False) (.ro 1 (l.map fun z => [.int .i64 z])) v :=
  ints_argP Tryd.underlying33 Tryd.underlying3 (by kernel_rfl) hval h hw

/-- A text. -/
theorem str_argM {P : Program} {H : Type} {enc : TypeId × Value → H} {W : World} {t : TypeId} {v : Value} {d : DataW H} {ps : List MemPlace} {base : Nat} (ht : P.underlying t = some .string)
    (hval : Value.okWide P W .any base t v) (h : DataW.Trod enc P W 0 (fun _ => true) true t v d ps) : ∃ s : ByteArray, v = .string s ∧ d = .lit (.string s.data.toList) ∧ ps = [] := by
  obtain ⟨s, rfl⟩ := okWide_string ht hval
  obtain ⟨fuel, hf⟩ := h
  obtain ⟨s', h, hx, hs⟩ := DataW.trod_string ht hf
  simp [Value.cells] at h
  subst h
  simp only [Prod.mk.injEq] at hx
  exact ⟨s, rfl, hx.1, hx.2⟩

/-- A law that says true says so whatever it is handed. -/
theorem says_callsN {P : Program} {f : FuncId} {W : World} {vals : Array Value} {args : List V} (hg : Globs W fun _ => False) (hs : vals.size = args.length)
    (hr : ∀ (ρ : Nat → Value) (i : Nat) (q : V), args[i]? = some q → RepP ρ W (fun _ => False) q (vals.getD i undef))
    (h : ∀ ρ : Nat → Value, Says ρ P f args (.bool true)) : Calls P f vals W fun e w' => e = .returned (.bool true) ∧ Below W.heap.size W w' :=
  calls_ret (ρ := fun _ => undef) hg hs (hr _) ((h _ (fun _ => none) 0 (fun _ _ _ => False)).mono fun o O m h => h.1)

end Go.Proofs.YtibmbbogjkecoaaDoor.M

/- PatChecks: the example, what is handed in. -/
namespace Go.Proofs.YtibmbbogjkecoaaDoor.M
open Go Go.RowKit
set_option linter.unusedSimpArgs false
set_option linter.unusedVariables false
variable {ρ : Nat → Value}

theorem wakes_true : Says ρ Tryd.prog 9 [] (.bool true) := says_toldT follows glob_ok runPat_ok (fun q hq => by cases hq) (by kernel_rfl)

def rawNd (x : (Int × Int) × (Int × Int) × ByteArray) : Nd := ⟨x.1.1, x.1.2, x.2.1.1, x.2.1.2, x.2.2.size, packL x.2.2.data.toList⟩
def rawVal (x : (Int × Int) × (Int × Int) × ByteArray) : List Value := [.int .i64 x.1.1, .int .i64 x.1.2, .int .i64 x.2.1.1, .int .i64 x.2.1.2, .string x.2.2]

set_option maxRecDepth 100000 in
theorem trod_raw {H : Type} {enc : TypeId × Value → H} {W : World} (n : Nat) (cs : List Value) (y : DataW H × List MemPlace) (h : DataW.trod enc Tryd.prog W 0 (fun _ => true) true n 49 cs = some y) : ∃ x, cs = rawVal x := by
  obtain ⟨xs, n', _, _, hl, hlen, hf⟩ := DataW.trod_struct Tryd.underlying49 h
  have h5 : Tryd.prog.cellsOf 49 = 5 := by kernel_rfl
  have hi : Tryd.prog.cellsOf 3 = 1 := by kernel_rfl
  have hs : Tryd.prog.cellsOf 9 = 1 := by kernel_rfl
  rw [h5] at hl
  have hlen : xs.length = 5 := hlen
  match cs, hl, xs, hlen with
  | [c0, c1, c2, c3, c4], _, [x0, x1, x2, x3, x4], _ =>
    have f0 := hf 0 _ rfl
    have f1 := hf 1 _ rfl
    have f2 := hf 2 _ rfl
    have f3 := hf 3 _ rfl
    have f4 := hf 4 _ rfl
    replace f0 : DataW.trod enc Tryd.prog W 0 (fun _ => true) true n' 3 (List.take (Tryd.prog.cellsOf 3) [c0, c1, c2, c3, c4]) = some x0 := f0
    replace f1 : DataW.trod enc Tryd.prog W 0 (fun _ => true) true n' 3 (List.take (Tryd.prog.cellsOf 3) [c1, c2, c3, c4]) = some x1 := f1
    replace f2 : DataW.trod enc Tryd.prog W 0 (fun _ => true) true n' 3 (List.take (Tryd.prog.cellsOf 3) [c2, c3, c4]) = some x2 := f2
    replace f3 : DataW.trod enc Tryd.prog W 0 (fun _ => true) true n' 3 (List.take (Tryd.prog.cellsOf 3) [c3, c4]) = some x3 := f3
    replace f4 : DataW.trod enc Tryd.prog W 0 (fun _ => true) true n' 9 (List.take (Tryd.prog.cellsOf 9) [c4]) = some x4 := f4
    rw [hi] at f0 f1 f2 f3
    rw [hs] at f4
    obtain ⟨z0, e0, _⟩ := DataW.trod_int Tryd.underlying3 f0
    obtain ⟨z1, e1, _⟩ := DataW.trod_int Tryd.underlying3 f1
    obtain ⟨z2, e2, _⟩ := DataW.trod_int Tryd.underlying3 f2
    obtain ⟨z3, e3, _⟩ := DataW.trod_int Tryd.underlying3 f3
    obtain ⟨z4, e4, _⟩ := DataW.trod_string Tryd.underlying9 f4
    simp at e0 e1 e2 e3 e4
    subst e0 e1 e2 e3 e4
    exact ⟨⟨⟨z0, z1⟩, ⟨z2, z3⟩, z4⟩, rfl⟩

set_option maxRecDepth 100000 in
theorem raw_arg {H : Type} {enc : TypeId × Value → H} {W : World} {v : Value} {d : DataW H} {ps : List MemPlace} {base : Nat}
    (hval : Value.okWide Tryd.prog W .any base 32 v) (h : DataW.Trod enc Tryd.prog W 0 (fun _ => true) true 32 v d ps) (hw : ∀ l r, d = .slice l r → (l.length + r.length) * 48 ≤ reachBytes) :
    ∃ l : List ((Int × Int) × (Int × Int) × ByteArray), l.length ≤ 140737488355328 ∧ ∀ ρ : Nat → Value, RepP ρ W (fun _ => False) (.ro 5 (l.map fun x => (rawNd x).row)) v :=
  rows_arg (fun x => (rawNd x).row) rawVal Tryd.underlying32 (by kernel_rfl) (b := 48) (by omega) (fun x => ⟨rfl, rfl⟩) (fun x q hq => by simp [Nd.row] at hq; rcases hq with rfl | rfl | rfl | rfl | rfl <;> rfl)
    (fun ρ x c q u hq hu => by
      match c with
      | 0 => simp [Nd.row, rawNd, rawVal] at hq hu; subst hq hu; exact .int _ _
      | 1 => simp [Nd.row, rawNd, rawVal] at hq hu; subst hq hu; exact .int _ _
      | 2 => simp [Nd.row, rawNd, rawVal] at hq hu; subst hq hu; exact .int _ _
      | 3 => simp [Nd.row, rawNd, rawVal] at hq hu; subst hq hu; exact .int _ _
      | 4 => simp [Nd.row, rawNd, rawVal] at hq hu; subst hq hu; exact repP_cv W _ (.string x.2.2)
      | c + 5 => simp [Nd.row] at hq) trod_raw hval h hw

theorem patChecks_args (raw : List ((Int × Int) × (Int × Int) × ByteArray)) (l : List Int) (how tags : Int) (hraw : raw.length ≤ 140737488355328) (hl : l.length ≤ 140737488355328) :
    Says ρ Tryd.prog 4 [.ro 5 (raw.map fun x => (rawNd x).row), .ro 1 (l.map fun z => [.int .i64 z]), .int .i64 how, .int .i64 tags] (.bool true) := by
  have h := patChecks_says (ρ := ρ) wakes_true (raw.map rawNd) l how tags (by rw [List.length_map]; exact hraw) hl
  rw [List.map_map] at h
  exact h
end Go.Proofs.YtibmbbogjkecoaaDoor.M
