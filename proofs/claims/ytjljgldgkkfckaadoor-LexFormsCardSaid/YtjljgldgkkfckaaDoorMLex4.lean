/- One token. -/
import Derived.Test.YtjljgldgkkfckaaDoorMLex3
namespace Go.Proofs.YtjljgldgkkfckaaDoor.M
open Go
set_option linter.unusedSimpArgs false
set_option linter.unusedVariables false
variable {ρ : Nat → Value}

attribute [local irreducible] forceN forceZ forceB okIf roundsK valK rowAt
set_option maxRecDepth 100000

/-- What a reader hands out. -/
def tokOut (n line col : Nat) : Option (Nat × Nat × Nat) → V
  | some (kind, num, k) => .tup [.agg [.int .i64 (.ofNat kind), .int .i64 (.ofNat num), .int .i64 (.ofNat line), .int .i64 (.ofNat col), .ps k (n % 256 ^ k)], .bool true]
  | none => .tup [.agg [.int .i64 (.ofNat 0), .int .i64 (.ofNat 0), .int .i64 (.ofNat line), .int .i64 (.ofNat col), .ps 0 0], .bool false]
def tokRow (len n line col : Nat) : Option (Nat × Nat × Nat) → List V
  | some (_, _, k) => [.ps (len - k) (n / 256 ^ k), .int .i64 (.ofNat line), .int .i64 (.ofNat (col + k))]
  | none => [.ps len n, .int .i64 (.ofNat line), .int .i64 (.ofNat col)]

theorem token_says (len n line col : Nat) (hl : len ≤ 140737488355328) (hcol : col ≤ 281474976710656) :
    SaysM ρ Tryd.prog 23 (fun _ _ => False) [.ps len n, .int .i64 (.ofNat line), .int .i64 (.ofNat col)] [] (tokOut n line col (tokM len n)) (tokRow len n line col (tokM len n)) := by
  refine .wf (i := 0) rfl fun hn => ?_
  rw [show (fun _ _ => False : Nat → Nat → Prop) = inL [] 0 by rw [inL_nil]]
  refine saysM_run (call := over 26 (ovB letterB) (over 37 (ovB digitB) (over 27 ovRun (over 35 ovSkip (over 38 ovAtoi (over 39 ovIdx call0)))))) follows globL_ok
    (over_ok (ovB_ok letter_says) (over_ok (ovB_ok digit_says) (over_ok ovRun_ok (over_ok ovSkip_ok (over_ok ovAtoi_ok (over_ok ovIdx_ok call0_ok)))))) (fun q hq => by simp at hq; rcases hq with rfl | rfl | rfl <;> rfl) (fun q hq => by cases hq) ?_
  have hrun1 := runP_le innerB len n
  have hrun2 := runP_le digitB len n
  have es : ({ data := #[] } : ByteArray).size = 0 := rfl
  have ep : packL [] = 0 := rfl
  have hb0 := byte0 n
  have hmod := @runP_mod digitB (runP digitB len n) (runP digitB len n) n (Nat.le_refl _)
  have hself := @runP_self digitB len n
  have hend : ∀ (N : Nat → Prop) (O : Objs) (a b c d : Nat) (k m k' m' : Nat) (t : Bool), k = k' → m = m' → Frz N O (.tup [.agg [.int .i64 (.ofNat a), .int .i64 (.ofNat b), .int .i64 (.ofNat c), .int .i64 (.ofNat d), .ps k m], .bool t]) (.tup [.agg [.int .i64 (.ofNat a), .int .i64 (.ofNat b), .int .i64 (.ofNat c), .int .i64 (.ofNat d), .ps k' m'], .bool t]) :=
    fun N O a b c d k m k' m' t e1 e2 => frz_cons (frz_agg (frz_cons (frz_int rfl) (frz_cons (frz_int rfl) (frz_cons (frz_int rfl) (frz_cons (frz_int rfl) (frz_cons (frz_ps e1 e2) frz_nil)))))) (frz_cons (frz_bool rfl) frz_nil)
  have hrow3 : ∀ {k m a b : Nat}, ∀ q ∈ [V.ps k m, V.int .i64 (.ofNat a), V.int .i64 (.ofNat b)], q.flat = true ∧ q.one = true := fun q hq => by simp at hq; rcases hq with rfl | rfl | rfl <;> exact ⟨rfl, rfl⟩
  have hcond : 1 ≤ runP digitB len n → runP digitB len n ≤ 9 → (Nat.ble 1 (runP digitB len n) && Nat.ble (runP digitB len n) 9 && Nat.beq (runP digitB (runP digitB len n) (n / 256 ^ 0 % 256 ^ runP digitB len n)) (runP digitB len n)) = true := fun g1 g2 => by
    simp only [Nat.pow_zero, Nat.div_one, hmod, hself, Nat.beq_refl, Bool.and_true, Bool.and_eq_true, Nat.ble_eq]
    exact ⟨g1, g2⟩
  by_cases h0 : len = 0
  · subst h0
    have hn0 : n = 0 := by simpa using hn
    subst hn0
    repeat' ((conv => lhs; whnf); first | ((conv => lhs; arg 1; whnf); refine valK_ok ?_) | refine forceB_ok ?_ | refine forceN_add ?_ | refine forceN_sub ?_ | refine forceN_suc ?_ | refine forceN_part ?_ | refine forceN_byte ?_ | refine forceN_ok ?_ | refine forceZ_add ?_ | refine forceZ_mul (by (try simp only [maxK]); omega) ?_ | refine forceZ_sub ?_ | refine forceZ_ok ?_ | refine rowAt_ok (byteRows_get (by (try simp only [maxK]); omega)) ?_ | (apply rowAt_ok; (focus assumption)) | refine br_true (Nat.beq_refl _) ?_ | refine br_true (by assumption) ?_ | refine br_false (by assumption) ?_ | refine br_max (by (try simp only [maxK]); omega) ?_ | refine br_ble_t (by (try simp only [maxK]); omega) ?_ | refine br_ble_f (by (try simp only [maxK]); omega) ?_ | refine br_beq_f (by (try simp only [maxK]); omega) ?_ | refine br_true (by simp only [Bool.and_eq_true, Nat.ble_eq]; (try simp only []); omega) ?_ | (refine br_ble (fun h => ?_) (fun h => ?_) <;> (try simp only [] at h)) | (refine br_beq (fun h => ?_) (fun h => ?_) <;> (try simp only [] at h)) | refine br_split (fun h => ?_) (fun h => ?_) | fail)
    exact okIf_ok ⟨hend _ _ 4 0 line col 0 0 _ _ true rfl rfl, frz_row (row := [.ps 0 0, .int .i64 (.ofNat line), .int .i64 (.ofNat col)]) rfl rfl hrow3⟩
  have hpos : 0 < len := by omega
  repeat' ((conv => lhs; whnf); first | ((conv => lhs; arg 1; whnf); refine valK_ok ?_) | refine forceB_ok ?_ | refine forceN_add ?_ | refine forceN_sub ?_ | refine forceN_suc ?_ | refine forceN_part ?_ | refine forceN_byte ?_ | refine forceN_ok ?_ | refine forceZ_add ?_ | refine forceZ_mul (by (try simp only [maxK]); omega) ?_ | refine forceZ_sub ?_ | refine forceZ_ok ?_ | refine rowAt_ok (byteRows_get (by (try simp only [maxK]); omega)) ?_ | (apply rowAt_ok; (focus assumption)) | refine br_true (Nat.beq_refl _) ?_ | refine br_true (by assumption) ?_ | refine br_false (by assumption) ?_ | refine br_max (by (try simp only [maxK]); omega) ?_ | refine br_ble_t (by (try simp only [maxK]); omega) ?_ | refine br_ble_f (by (try simp only [maxK]); omega) ?_ | refine br_beq_f (by (try simp only [maxK]); omega) ?_ | refine br_true (by simp only [Bool.and_eq_true, Nat.ble_eq]; (try simp only []); omega) ?_ | (refine br_ble (fun h => ?_) (fun h => ?_) <;> (try simp only [] at h)) | (refine br_beq (fun h => ?_) (fun h => ?_) <;> (try simp only [] at h)) | refine br_split (fun h => ?_) (fun h => ?_) | fail)
  all_goals (try (conv => lhs; whnf))
  all_goals (try simp only [byte0, Nat.sub_zero] at *)
  · rw [tok_wordNo hpos ‹_› (by omega)]
    exact okIf_ok ⟨hend _ _ 0 0 line col 0 0 _ _ false rfl rfl, frz_row rfl rfl hrow3⟩
  · rw [tok_word hpos ‹_› (by omega)]
    exact okIf_ok ⟨hend _ _ 1 0 line col _ _ _ _ true rfl (by rw [Nat.pow_zero, Nat.div_one]), frz_row rfl rfl hrow3⟩
  · rw [tok_numNo hpos ‹_› ‹_› (.inl (by omega))]
    exact okIf_ok ⟨hend _ _ 0 0 line col 0 0 _ _ false rfl rfl, frz_row rfl rfl hrow3⟩
  · rw [tok_numNo hpos ‹_› ‹_› (.inr ⟨by omega, by omega⟩)]
    exact okIf_ok ⟨hend _ _ 0 0 line col 0 0 _ _ false rfl rfl, frz_row rfl rfl hrow3⟩
  · rw [tok_num hpos ‹letterB (n % 256) = false› ‹digitB (n % 256) = true› (by omega) (.inr (by omega))]
    simp only [Nat.pow_zero, Nat.div_one]
    exact okIf_ok ⟨hend _ _ 2 _ line col _ _ _ _ true rfl rfl, frz_row rfl rfl hrow3⟩
  · have hp2 := runP_pos (p := digitB) hpos ‹digitB (n % 256) = true›
    have hc2 := hcond (by omega) (by omega)
    rw [‹(Nat.ble 1 (runP digitB len n) && Nat.ble (runP digitB len n) 9 && Nat.beq (runP digitB (runP digitB len n) (n / 256 ^ 0 % 256 ^ runP digitB len n)) (runP digitB len n)) = false›] at hc2
    cases hc2
  · rw [tok_num hpos ‹letterB (n % 256) = false› ‹digitB (n % 256) = true› (by omega) (.inl (by omega))]
    simp only [Nat.pow_zero, Nat.div_one]
    exact okIf_ok ⟨hend _ _ 2 _ line col _ _ _ _ true rfl rfl, frz_row rfl rfl hrow3⟩
  · have hp2 := runP_pos (p := digitB) hpos ‹digitB (n % 256) = true›
    have hc2 := hcond (by omega) (by omega)
    rw [‹(Nat.ble 1 (runP digitB len n) && Nat.ble (runP digitB len n) 9 && Nat.beq (runP digitB (runP digitB len n) (n / 256 ^ 0 % 256 ^ runP digitB len n)) (runP digitB len n)) = false›] at hc2
    cases hc2
  · rw [tok_sign hpos ‹letterB (n % 256) = false› ‹digitB (n % 256) = false› ‹signB (n % 256) = true›]
    simp only [Nat.pow_zero, Nat.div_one]
    exact okIf_ok ⟨hend _ _ 3 0 line col _ _ _ _ true rfl rfl, frz_row rfl rfl hrow3⟩
  · rw [tok_none hpos ‹letterB (n % 256) = false› ‹digitB (n % 256) = false› ‹signB (n % 256) = false›]
    exact okIf_ok ⟨hend _ _ 0 0 line col 0 0 _ _ false rfl rfl, frz_row rfl rfl hrow3⟩

end Go.Proofs.YtjljgldgkkfckaaDoor.M
