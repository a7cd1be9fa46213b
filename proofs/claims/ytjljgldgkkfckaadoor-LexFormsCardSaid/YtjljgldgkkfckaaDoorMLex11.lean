/- LexTells: both lexers say the same. -/
import Derived.Test.YtjljgldgkkfckaaDoorMLex10
namespace Go.Proofs.YtjljgldgkkfckaaDoor.M
open Go
set_option linter.unusedSimpArgs false
set_option linter.unusedVariables false
variable {ρ : Nat → Value}

def pickOf (row : List V) : Int := match row with
  | [.int .i64 z] => z
  | _ => 0
theorem picks_of (picks : List Int) : picks.map pickRow = ((picks.map pickRow).map pickOf).map pickRow := by
  rw [List.map_map, List.map_map]
  rfl

noncomputable def ovText : OvT := fun args _ hp nx kr _ => match args with
  | [.ps len n, .ro 1 rows] => askP (len ≤ 140737488355328 ∧ rows.length ≤ 140737488355328 ∧ rows = (rows.map pickOf).map pickRow) (kr (.ps (textM len n (rows.map pickOf)).1 (textM len n (rows.map pickOf)).2) hp nx)
  | _ => .err 1
theorem ovText_ok : OvOK ρ Tryd.prog 9 ovText := by
  intro args forb hp nx kr kp h0
  unfold ovText at h0
  split at h0
  · rename_i len n rows
    obtain ⟨⟨h1, h2, h3⟩, h4⟩ := askP_inv h0
    have hs := text_says (ρ := ρ) len n (rows.map pickOf) h1 (by simpa using h2)
    rw [← h3] at hs
    refine (hs (absO hp) nx (inL forb)).mono ?_
    rintro o O m ⟨e1, e2, e3⟩
    subst e1 e2 e3
    exact ⟨hp, rfl, h4⟩
  · exact Ans.no h0

attribute [local irreducible] forceN forceZ forceB okIf roundsK valK rowAt
attribute [local irreducible] askP toksF aggsK
set_option maxRecDepth 100000

set_option maxHeartbeats 4000000 in
theorem lexTells_says (len n : Nat) (picks : List Int) (hl : len ≤ 140737488355328) (hp : picks.length ≤ 140737488355328) : Says ρ Tryd.prog 3 [.ps len n, .ro 1 (picks.map pickRow)] (.bool true) := by
  have hml : (picks.map pickRow).length ≤ 140737488355328 := by simpa using hp
  have hx := textM_le len n ((picks.map pickRow).map pickOf)
  refine says_run (call := over 8 ovKeep (over 9 ovText (over 10 ovToks (over 11 ovToks (over 12 ovSame (over 13 ovWakes call0)))))) follows globL_ok (over_ok ovKeep_ok (over_ok ovText_ok (over_ok (ovToks_ok tokens_says) (over_ok (ovToks_ok rtokens_says) (over_ok ovSame_ok (over_ok ovWakes_ok call0_ok)))))) (arg2 rfl rfl) ?_
  repeat' (first | ((conv => lhs; whnf); first | ((conv => lhs; arg 1; whnf); refine valK_ok ?_) | refine forceB_ok ?_ | refine forceN_add ?_ | refine forceN_sub ?_ | refine forceN_suc ?_ | refine forceN_part ?_ | refine forceN_byte ?_ | refine forceN_ok ?_ | refine forceZ_add ?_ | refine forceZ_mul (by (try simp only [maxK]); omega) ?_ | refine forceZ_sub ?_ | refine forceZ_ok ?_ | refine rowAt_ok (byteRows_get (by (try simp only [maxK]); omega)) ?_ | (apply rowAt_ok; (focus assumption)) | refine br_true (Nat.beq_refl _) ?_ | refine br_true (by assumption) ?_ | refine br_false (by assumption) ?_ | refine br_max (by (try simp only [maxK]); omega) ?_ | refine br_ble_t (by (try simp only [maxK]); omega) ?_ | refine br_ble_f (by (try simp only [maxK]); omega) ?_ | refine br_beq_f (by (try simp only [maxK]); omega) ?_ | refine br_true (by simp only [Bool.and_eq_true, Nat.ble_eq]; (try simp only []); omega) ?_ | (refine br_ble (fun h => ?_) (fun h => ?_) <;> (try simp only [] at h)) | (refine br_beq (fun h => ?_) (fun h => ?_) <;> (try simp only [] at h)) | refine br_split (fun h => ?_) (fun h => ?_) | fail) | ((conv => lhs; whnf); first | refine acc4_upd_ok (by omega) ?_ | refine acc4_get_same (by omega) ?_ | refine acc4_get_other (by omega) (by omega) (by omega) ?_ | refine acc4_get_ok (by omega) (by assumption) ?_ | refine opt3_split (fun h => ?_) (fun kind num tl h => ?_) | refine int_split (fun a h => ?_) (fun a h => ?_) | fail))
  conv => lhs; whnf
  refine askP_ok ⟨hl, hml, picks_of picks⟩ ?_
  repeat' (first | ((conv => lhs; whnf); first | ((conv => lhs; arg 1; whnf); refine valK_ok ?_) | refine forceB_ok ?_ | refine forceN_add ?_ | refine forceN_sub ?_ | refine forceN_suc ?_ | refine forceN_part ?_ | refine forceN_byte ?_ | refine forceN_ok ?_ | refine forceZ_add ?_ | refine forceZ_mul (by (try simp only [maxK]); omega) ?_ | refine forceZ_sub ?_ | refine forceZ_ok ?_ | refine rowAt_ok (byteRows_get (by (try simp only [maxK]); omega)) ?_ | (apply rowAt_ok; (focus assumption)) | refine br_true (Nat.beq_refl _) ?_ | refine br_true (by assumption) ?_ | refine br_false (by assumption) ?_ | refine br_max (by (try simp only [maxK]); omega) ?_ | refine br_ble_t (by (try simp only [maxK]); omega) ?_ | refine br_ble_f (by (try simp only [maxK]); omega) ?_ | refine br_beq_f (by (try simp only [maxK]); omega) ?_ | refine br_true (by simp only [Bool.and_eq_true, Nat.ble_eq]; (try simp only []); omega) ?_ | (refine br_ble (fun h => ?_) (fun h => ?_) <;> (try simp only [] at h)) | (refine br_beq (fun h => ?_) (fun h => ?_) <;> (try simp only [] at h)) | refine br_split (fun h => ?_) (fun h => ?_) | fail) | ((conv => lhs; whnf); first | refine acc4_upd_ok (by omega) ?_ | refine acc4_get_same (by omega) ?_ | refine acc4_get_other (by omega) (by omega) (by omega) ?_ | refine acc4_get_ok (by omega) (by assumption) ?_ | refine opt3_split (fun h => ?_) (fun kind num tl h => ?_) | refine int_split (fun a h => ?_) (fun a h => ?_) | fail))
  refine unroll (by unfold rounds0; omega) ?_
  repeat' (first | (first | ((conv => lhs; whnf); first | ((conv => lhs; arg 1; whnf); refine valK_ok ?_) | refine forceB_ok ?_ | refine forceN_add ?_ | refine forceN_sub ?_ | refine forceN_suc ?_ | refine forceN_part ?_ | refine forceN_byte ?_ | refine forceN_ok ?_ | refine forceZ_add ?_ | refine forceZ_mul (by (try simp only [maxK]); omega) ?_ | refine forceZ_sub ?_ | refine forceZ_ok ?_ | refine rowAt_ok (byteRows_get (by (try simp only [maxK]); omega)) ?_ | (apply rowAt_ok; (focus assumption)) | refine br_true (Nat.beq_refl _) ?_ | refine br_true (by assumption) ?_ | refine br_false (by assumption) ?_ | refine br_max (by (try simp only [maxK]); omega) ?_ | refine br_ble_t (by (try simp only [maxK]); omega) ?_ | refine br_ble_f (by (try simp only [maxK]); omega) ?_ | refine br_beq_f (by (try simp only [maxK]); omega) ?_ | refine br_true (by simp only [Bool.and_eq_true, Nat.ble_eq]; (try simp only []); omega) ?_ | (refine br_ble (fun h => ?_) (fun h => ?_) <;> (try simp only [] at h)) | (refine br_beq (fun h => ?_) (fun h => ?_) <;> (try simp only [] at h)) | refine br_split (fun h => ?_) (fun h => ?_) | fail) | ((conv => lhs; whnf); first | refine acc4_upd_ok (by omega) ?_ | refine acc4_get_same (by omega) ?_ | refine acc4_get_other (by omega) (by omega) (by omega) ?_ | refine acc4_get_ok (by omega) (by assumption) ?_ | refine opt3_split (fun h => ?_) (fun kind num tl h => ?_) | refine int_split (fun a h => ?_) (fun a h => ?_) | fail)) | ((conv => lhs; whnf); first | (apply lex_ok; (focus assumption)) | (apply lex_bad; (focus assumption)) | refine lex_split (fun l h => ?_) (fun a b h => ?_) | refine askP_ok (.inl ⟨_, Nat.le_trans (toksF_le _ _ _ _ _ _ ‹toksF _ _ _ _ _ = LexR.ok _›) (by first | omega | exact Nat.le_trans (Nat.succ_le_succ (Nat.min_le_right _ _)) (by decide)), rfl⟩) ?_ | refine askP_ok (.inr rfl) ?_ | fail))
  all_goals (conv => lhs; whnf)
  all_goals refine unroll (by unfold rounds0; omega) ?_
  all_goals repeat' (first | (first | ((conv => lhs; whnf); first | ((conv => lhs; arg 1; whnf); refine valK_ok ?_) | refine forceB_ok ?_ | refine forceN_add ?_ | refine forceN_sub ?_ | refine forceN_suc ?_ | refine forceN_part ?_ | refine forceN_byte ?_ | refine forceN_ok ?_ | refine forceZ_add ?_ | refine forceZ_mul (by (try simp only [maxK]); omega) ?_ | refine forceZ_sub ?_ | refine forceZ_ok ?_ | refine rowAt_ok (byteRows_get (by (try simp only [maxK]); omega)) ?_ | (apply rowAt_ok; (focus assumption)) | refine br_true (Nat.beq_refl _) ?_ | refine br_true (by assumption) ?_ | refine br_false (by assumption) ?_ | refine br_max (by (try simp only [maxK]); omega) ?_ | refine br_ble_t (by (try simp only [maxK]); omega) ?_ | refine br_ble_f (by (try simp only [maxK]); omega) ?_ | refine br_beq_f (by (try simp only [maxK]); omega) ?_ | refine br_true (by simp only [Bool.and_eq_true, Nat.ble_eq]; (try simp only []); omega) ?_ | (refine br_ble (fun h => ?_) (fun h => ?_) <;> (try simp only [] at h)) | (refine br_beq (fun h => ?_) (fun h => ?_) <;> (try simp only [] at h)) | refine br_split (fun h => ?_) (fun h => ?_) | fail) | ((conv => lhs; whnf); first | refine acc4_upd_ok (by omega) ?_ | refine acc4_get_same (by omega) ?_ | refine acc4_get_other (by omega) (by omega) (by omega) ?_ | refine acc4_get_ok (by omega) (by assumption) ?_ | refine opt3_split (fun h => ?_) (fun kind num tl h => ?_) | refine int_split (fun a h => ?_) (fun a h => ?_) | fail)) | ((conv => lhs; whnf); first | (apply lex_ok; (focus assumption)) | (apply lex_bad; (focus assumption)) | refine lex_split (fun l h => ?_) (fun a b h => ?_) | refine askP_ok (.inl ⟨_, Nat.le_trans (toksF_le _ _ _ _ _ _ ‹toksF _ _ _ _ _ = LexR.ok _›) (by first | omega | exact Nat.le_trans (Nat.succ_le_succ (Nat.min_le_right _ _)) (by decide)), rfl⟩) ?_ | refine askP_ok (.inr rfl) ?_ | fail))
  all_goals (conv => lhs; whnf)
  all_goals refine unroll (by unfold rounds0; omega) ?_
  all_goals repeat' (first | (first | ((conv => lhs; whnf); first | ((conv => lhs; arg 1; whnf); refine valK_ok ?_) | refine forceB_ok ?_ | refine forceN_add ?_ | refine forceN_sub ?_ | refine forceN_suc ?_ | refine forceN_part ?_ | refine forceN_byte ?_ | refine forceN_ok ?_ | refine forceZ_add ?_ | refine forceZ_mul (by (try simp only [maxK]); omega) ?_ | refine forceZ_sub ?_ | refine forceZ_ok ?_ | refine rowAt_ok (byteRows_get (by (try simp only [maxK]); omega)) ?_ | (apply rowAt_ok; (focus assumption)) | refine br_true (Nat.beq_refl _) ?_ | refine br_true (by assumption) ?_ | refine br_false (by assumption) ?_ | refine br_max (by (try simp only [maxK]); omega) ?_ | refine br_ble_t (by (try simp only [maxK]); omega) ?_ | refine br_ble_f (by (try simp only [maxK]); omega) ?_ | refine br_beq_f (by (try simp only [maxK]); omega) ?_ | refine br_true (by simp only [Bool.and_eq_true, Nat.ble_eq]; (try simp only []); omega) ?_ | (refine br_ble (fun h => ?_) (fun h => ?_) <;> (try simp only [] at h)) | (refine br_beq (fun h => ?_) (fun h => ?_) <;> (try simp only [] at h)) | refine br_split (fun h => ?_) (fun h => ?_) | fail) | ((conv => lhs; whnf); first | refine acc4_upd_ok (by omega) ?_ | refine acc4_get_same (by omega) ?_ | refine acc4_get_other (by omega) (by omega) (by omega) ?_ | refine acc4_get_ok (by omega) (by assumption) ?_ | refine opt3_split (fun h => ?_) (fun kind num tl h => ?_) | refine int_split (fun a h => ?_) (fun a h => ?_) | fail)) | ((conv => lhs; whnf); first | (apply lex_ok; (focus assumption)) | (apply lex_bad; (focus assumption)) | refine lex_split (fun l h => ?_) (fun a b h => ?_) | refine askP_ok (.inl ⟨_, Nat.le_trans (toksF_le _ _ _ _ _ _ ‹toksF _ _ _ _ _ = LexR.ok _›) (by first | omega | exact Nat.le_trans (Nat.succ_le_succ (Nat.min_le_right _ _)) (by decide)), rfl⟩) ?_ | refine askP_ok (.inr rfl) ?_ | fail))
  all_goals (try (conv => lhs; whnf))
  all_goals try exact okIf_ok (frz_bool rfl)

end Go.Proofs.YtjljgldgkkfckaaDoor.M
