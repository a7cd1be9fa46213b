/- The lexer's small functions. -/
import Derived.Test.YtjljgldgkkfckaaDoorMLexM
import Derived.Test.YtjljgldgkkfckaaDoorMOk
namespace Go.Proofs.YtjljgldgkkfckaaDoor.M
open Go
set_option linter.unusedSimpArgs false
set_option linter.unusedVariables false
variable {ρ : Nat → Value}
theorem follows : Tryd.prog.follows .mixedOrders = true := by kernel_rfl

attribute [local irreducible] forceN forceZ forceB okIf roundsK valK rowAt

set_option maxRecDepth 100000
theorem arg1 {q : V} (h : q.flat = true) : ∀ x ∈ [q], Arg2 [] x x := fun x hx => by simp at hx; subst hx; exact .flat _ h

theorem letter_says (c : Nat) : Says ρ Tryd.prog 26 [.int .u8 (.ofNat c)] (.bool (letterB c)) := by
  refine says_run (call := call0) follows globL_ok call0_ok (arg1 rfl) ?_
  repeat' ((conv => lhs; whnf); first | ((conv => lhs; arg 1; whnf); refine valK_ok ?_) | refine forceB_ok ?_ | refine forceN_add ?_ | refine forceN_sub ?_ | refine forceN_suc ?_ | refine forceN_part ?_ | refine forceN_byte ?_ | refine forceN_ok ?_ | refine forceZ_add ?_ | refine forceZ_mul (by (try simp only [maxK]); omega) ?_ | refine forceZ_sub ?_ | refine forceZ_ok ?_ | refine rowAt_ok (byteRows_get (by (try simp only [maxK]); omega)) ?_ | (apply rowAt_ok; (focus assumption)) | refine br_true (Nat.beq_refl _) ?_ | refine br_true (by assumption) ?_ | refine br_false (by assumption) ?_ | refine br_max (by (try simp only [maxK]); omega) ?_ | refine br_ble_t (by (try simp only [maxK]); omega) ?_ | refine br_ble_f (by (try simp only [maxK]); omega) ?_ | refine br_beq_f (by (try simp only [maxK]); omega) ?_ | refine br_true (by simp only [Bool.and_eq_true, Nat.ble_eq]; (try simp only []); omega) ?_ | (refine br_ble (fun h => ?_) (fun h => ?_) <;> (try simp only [] at h)) | (refine br_beq (fun h => ?_) (fun h => ?_) <;> (try simp only [] at h)) | refine br_split (fun h => ?_) (fun h => ?_) | fail)
  all_goals refine okIf_ok (frz_bool ?_)
  all_goals (first | (rw [Bool.eq_iff_iff]; simp only [letterB, Bool.and_eq_true, Bool.or_eq_true, Bool.not_eq_true', Nat.ble_eq, Nat.beq_eq, Bool.false_eq_true, Bool.true_eq_false, true_iff, false_iff, iff_true, iff_false, beq_false_iff, ble_false_iff] <;> omega) | (simp_all [letterB]; done) | (rw [Bool.eq_iff_iff]; simp_all [letterB] <;> omega))

theorem digit_says (c : Nat) : Says ρ Tryd.prog 37 [.int .u8 (.ofNat c)] (.bool (digitB c)) := by
  refine says_run (call := call0) follows globL_ok call0_ok (arg1 rfl) ?_
  repeat' ((conv => lhs; whnf); first | ((conv => lhs; arg 1; whnf); refine valK_ok ?_) | refine forceB_ok ?_ | refine forceN_add ?_ | refine forceN_sub ?_ | refine forceN_suc ?_ | refine forceN_part ?_ | refine forceN_byte ?_ | refine forceN_ok ?_ | refine forceZ_add ?_ | refine forceZ_mul (by (try simp only [maxK]); omega) ?_ | refine forceZ_sub ?_ | refine forceZ_ok ?_ | refine rowAt_ok (byteRows_get (by (try simp only [maxK]); omega)) ?_ | (apply rowAt_ok; (focus assumption)) | refine br_true (Nat.beq_refl _) ?_ | refine br_true (by assumption) ?_ | refine br_false (by assumption) ?_ | refine br_max (by (try simp only [maxK]); omega) ?_ | refine br_ble_t (by (try simp only [maxK]); omega) ?_ | refine br_ble_f (by (try simp only [maxK]); omega) ?_ | refine br_beq_f (by (try simp only [maxK]); omega) ?_ | refine br_true (by simp only [Bool.and_eq_true, Nat.ble_eq]; (try simp only []); omega) ?_ | (refine br_ble (fun h => ?_) (fun h => ?_) <;> (try simp only [] at h)) | (refine br_beq (fun h => ?_) (fun h => ?_) <;> (try simp only [] at h)) | refine br_split (fun h => ?_) (fun h => ?_) | fail)
  all_goals refine okIf_ok (frz_bool ?_)
  all_goals (first | (rw [Bool.eq_iff_iff]; simp only [digitB, Bool.and_eq_true, Bool.or_eq_true, Bool.not_eq_true', Nat.ble_eq, Nat.beq_eq, Bool.false_eq_true, Bool.true_eq_false, true_iff, false_iff, iff_true, iff_false, beq_false_iff, ble_false_iff] <;> omega) | (simp_all [digitB]; done) | (rw [Bool.eq_iff_iff]; simp_all [digitB] <;> omega))

noncomputable def ovB (p : Nat → Bool) : OvT := ovF fun | [.int .u8 (.ofNat c)] => some (true, .bool (p c)) | _ => none

theorem run_says (f : FuncId) (p : Nat → Bool) (hfn : fnOK Tryd.prog f = true) (hf : ∀ c, Says ρ Tryd.prog f [.int .u8 (.ofNat c)] (.bool (p c))) (len n : Nat) (hl : len < 9223372036854775807) : Says ρ Tryd.prog 27 [.ps len n, .fn f []] (.int .i64 (.ofNat (runP p len n))) := by
  have hov : OvOK ρ Tryd.prog f (ovB p) := ov_says fun args v h => by
    split at h
    · cases h; exact hf _
    · cases h
  refine says_run (call := over f (ovB p) call0) follows globL_ok (over_ok hov call0_ok) (fun q hq => by simp at hq; rcases hq with rfl | rfl; exact .flat _ rfl; exact .fn f) ?_
  repeat' ((conv => lhs; whnf); first | ((conv => lhs; arg 1; whnf); refine valK_ok ?_) | refine forceB_ok ?_ | refine forceN_add ?_ | refine forceN_sub ?_ | refine forceN_suc ?_ | refine forceN_part ?_ | refine forceN_byte ?_ | refine forceN_ok ?_ | refine forceZ_add ?_ | refine forceZ_mul (by (try simp only [maxK]); omega) ?_ | refine forceZ_sub ?_ | refine forceZ_ok ?_ | refine rowAt_ok (byteRows_get (by (try simp only [maxK]); omega)) ?_ | (apply rowAt_ok; (focus assumption)) | refine br_true (Nat.beq_refl _) ?_ | refine br_true (by assumption) ?_ | refine br_false (by assumption) ?_ | refine br_max (by (try simp only [maxK]); omega) ?_ | refine br_ble_t (by (try simp only [maxK]); omega) ?_ | refine br_ble_f (by (try simp only [maxK]); omega) ?_ | refine br_beq_f (by (try simp only [maxK]); omega) ?_ | refine br_true (by simp only [Bool.and_eq_true, Nat.ble_eq]; (try simp only []); omega) ?_ | (refine br_ble (fun h => ?_) (fun h => ?_) <;> (try simp only [] at h)) | (refine br_beq (fun h => ?_) (fun h => ?_) <;> (try simp only [] at h)) | refine br_split (fun h => ?_) (fun h => ?_) | fail)
  conv => lhs; whnf
  refine loop_ok (fun m tm hp nx => ∃ i, m = len - i ∧ i ≤ len ∧ runP p len n = i + runP p (len - i) (n / 256 ^ i) ∧ hp = hp0 ∧ get2 tm 0 = .ps len n ∧ get2 tm 1 = .fn f [] ∧ get2 tm 5 = .int .i64 (.ofNat i) ∧ get2 tm 255 = .un) (m := len) (by omega) ⟨0, rfl, by omega, by simp, rfl, rfl, rfl, rfl, rfl⟩ ?_
  rintro m tm hp nx ⟨i, rfl, hi, hr, rfl, e0, e1, e5, e255⟩ k hk
  (obtain ⟨y0, y1, y2, y3, y4, y5, y6, y7, y8, y9, y10, y11, y12, y13, y14, y15⟩ := tm; obtain ⟨x0, x1, x2, x3, x4, x5, x6, x7, x8, x9, x10, x11, x12, x13, x14, x15⟩ := y0; obtain ⟨x16, x17, x18, x19, x20, x21, x22, x23, x24, x25, x26, x27, x28, x29, x30, x31⟩ := y1; obtain ⟨x240, x241, x242, x243, x244, x245, x246, x247, x248, x249, x250, x251, x252, x253, x254, x255⟩ := y15)
  cases e0
  cases e1
  cases e5
  cases e255
  have hs := fun h => @runP_step p i len n h
  repeat' ((conv => lhs; whnf); first | ((conv => lhs; arg 1; whnf); refine valK_ok ?_) | refine forceB_ok ?_ | refine forceN_add ?_ | refine forceN_sub ?_ | refine forceN_suc ?_ | refine forceN_part ?_ | refine forceN_byte ?_ | refine forceN_ok ?_ | refine forceZ_add ?_ | refine forceZ_mul (by (try simp only [maxK]); omega) ?_ | refine forceZ_sub ?_ | refine forceZ_ok ?_ | refine rowAt_ok (byteRows_get (by (try simp only [maxK]); omega)) ?_ | (apply rowAt_ok; (focus assumption)) | refine br_true (Nat.beq_refl _) ?_ | refine br_true (by assumption) ?_ | refine br_false (by assumption) ?_ | refine br_max (by (try simp only [maxK]); omega) ?_ | refine br_ble_t (by (try simp only [maxK]); omega) ?_ | refine br_ble_f (by (try simp only [maxK]); omega) ?_ | refine br_beq_f (by (try simp only [maxK]); omega) ?_ | refine br_true (by simp only [Bool.and_eq_true, Nat.ble_eq]; (try simp only []); omega) ?_ | (refine br_ble (fun h => ?_) (fun h => ?_) <;> (try simp only [] at h)) | (refine br_beq (fun h => ?_) (fun h => ?_) <;> (try simp only [] at h)) | refine br_split (fun h => ?_) (fun h => ?_) | fail)
  all_goals (conv => lhs; whnf)
  · refine hk _ _ _ _ (by omega) ⟨i + 1, rfl, by omega, ?_, rfl, rfl, rfl, rfl, rfl⟩
    rw [hr, hs (by omega), ‹p _ = true›]
  · refine okIf_ok (frz_int ?_)
    rw [hr, hs (by omega), ‹p _ = false›]
  · refine okIf_ok (frz_int ?_)
    rw [hr, show len - i = 0 by omega]
    rfl

theorem inner_says (c : Nat) : Says ρ Tryd.prog 28 [.int .u8 (.ofNat c)] (.bool (innerB c)) := by
  have h1 : OvOK ρ Tryd.prog 26 (ovB letterB) := ov_says fun args v h => by
    split at h
    · cases h; exact letter_says _
    · cases h
  have h2 : OvOK ρ Tryd.prog 37 (ovB digitB) := ov_says fun args v h => by
    split at h
    · cases h; exact digit_says _
    · cases h
  refine says_run (call := over 26 (ovB letterB) (over 37 (ovB digitB) call0)) follows globL_ok (over_ok h1 (over_ok h2 call0_ok)) (arg1 rfl) ?_
  repeat' ((conv => lhs; whnf); first | ((conv => lhs; arg 1; whnf); refine valK_ok ?_) | refine forceB_ok ?_ | refine forceN_add ?_ | refine forceN_sub ?_ | refine forceN_suc ?_ | refine forceN_part ?_ | refine forceN_byte ?_ | refine forceN_ok ?_ | refine forceZ_add ?_ | refine forceZ_mul (by (try simp only [maxK]); omega) ?_ | refine forceZ_sub ?_ | refine forceZ_ok ?_ | refine rowAt_ok (byteRows_get (by (try simp only [maxK]); omega)) ?_ | (apply rowAt_ok; (focus assumption)) | refine br_true (Nat.beq_refl _) ?_ | refine br_true (by assumption) ?_ | refine br_false (by assumption) ?_ | refine br_max (by (try simp only [maxK]); omega) ?_ | refine br_ble_t (by (try simp only [maxK]); omega) ?_ | refine br_ble_f (by (try simp only [maxK]); omega) ?_ | refine br_beq_f (by (try simp only [maxK]); omega) ?_ | refine br_true (by simp only [Bool.and_eq_true, Nat.ble_eq]; (try simp only []); omega) ?_ | (refine br_ble (fun h => ?_) (fun h => ?_) <;> (try simp only [] at h)) | (refine br_beq (fun h => ?_) (fun h => ?_) <;> (try simp only [] at h)) | refine br_split (fun h => ?_) (fun h => ?_) | fail)
  all_goals refine okIf_ok (frz_bool ?_)
  all_goals (first | (rw [Bool.eq_iff_iff]; simp only [innerB, Bool.and_eq_true, Bool.or_eq_true, Bool.not_eq_true', Nat.ble_eq, Nat.beq_eq, Bool.false_eq_true, Bool.true_eq_false, true_iff, false_iff, iff_true, iff_false, beq_false_iff, ble_false_iff] <;> omega) | (simp_all [innerB]; done) | (rw [Bool.eq_iff_iff]; simp_all [innerB] <;> omega))

theorem line_says (c : Nat) : Says ρ Tryd.prog 36 [.int .u8 (.ofNat c)] (.bool (lineB c)) := by
  refine says_run (call := call0) follows globL_ok call0_ok (arg1 rfl) ?_
  repeat' ((conv => lhs; whnf); first | ((conv => lhs; arg 1; whnf); refine valK_ok ?_) | refine forceB_ok ?_ | refine forceN_add ?_ | refine forceN_sub ?_ | refine forceN_suc ?_ | refine forceN_part ?_ | refine forceN_byte ?_ | refine forceN_ok ?_ | refine forceZ_add ?_ | refine forceZ_mul (by (try simp only [maxK]); omega) ?_ | refine forceZ_sub ?_ | refine forceZ_ok ?_ | refine rowAt_ok (byteRows_get (by (try simp only [maxK]); omega)) ?_ | (apply rowAt_ok; (focus assumption)) | refine br_true (Nat.beq_refl _) ?_ | refine br_true (by assumption) ?_ | refine br_false (by assumption) ?_ | refine br_max (by (try simp only [maxK]); omega) ?_ | refine br_ble_t (by (try simp only [maxK]); omega) ?_ | refine br_ble_f (by (try simp only [maxK]); omega) ?_ | refine br_beq_f (by (try simp only [maxK]); omega) ?_ | refine br_true (by simp only [Bool.and_eq_true, Nat.ble_eq]; (try simp only []); omega) ?_ | (refine br_ble (fun h => ?_) (fun h => ?_) <;> (try simp only [] at h)) | (refine br_beq (fun h => ?_) (fun h => ?_) <;> (try simp only [] at h)) | refine br_split (fun h => ?_) (fun h => ?_) | fail)
  all_goals refine okIf_ok (frz_bool ?_)
  all_goals (first | (rw [Bool.eq_iff_iff]; simp only [lineB, Bool.and_eq_true, Bool.or_eq_true, Bool.not_eq_true', Nat.ble_eq, Nat.beq_eq, Bool.false_eq_true, Bool.true_eq_false, true_iff, false_iff, iff_true, iff_false, beq_false_iff, ble_false_iff] <;> omega) | (simp_all [lineB]; done) | (rw [Bool.eq_iff_iff]; simp_all [lineB] <;> omega))

noncomputable def ovRun : OvT := ovF fun
  | [.ps len n, .fn f []] => match f with
      | 28 => some (Nat.ble len 140737488355328, .int .i64 (.ofNat (runP innerB len n)))
      | 37 => some (Nat.ble len 140737488355328, .int .i64 (.ofNat (runP digitB len n)))
      | 36 => some (Nat.ble len 140737488355328, .int .i64 (.ofNat (runP lineB len n)))
      | _ => none
  | _ => none
theorem ovRun_ok : OvOK ρ Tryd.prog 27 ovRun := ov_says fun args v h => by
  split at h
  · split at h
    · injection h with h; injection h with h1 h2; subst h2; have := Nat.le_of_ble_eq_true h1; exact run_says 28 innerB (by kernel_rfl) inner_says _ _ (by omega)
    · injection h with h; injection h with h1 h2; subst h2; have := Nat.le_of_ble_eq_true h1; exact run_says 37 digitB (by kernel_rfl) digit_says _ _ (by omega)
    · injection h with h; injection h with h1 h2; subst h2; have := Nat.le_of_ble_eq_true h1; exact run_says 36 lineB (by kernel_rfl) line_says _ _ (by omega)
    · cases h
  · cases h

theorem ovB_ok {f : FuncId} {p : Nat → Bool} (h : ∀ c, Says ρ Tryd.prog f [.int .u8 (.ofNat c)] (.bool (p c))) : OvOK ρ Tryd.prog f (ovB p) := ov_says fun args v g => by
  split at g
  · cases g; exact h _
  · cases g

/-- Is it a word? -/
def wordM (len n : Nat) : Bool := Nat.ble 1 len && Nat.ble len 16 && letterB (n % 256) && Nat.beq (runP innerB len n) len

theorem word_says (len n : Nat) (hl : len ≤ 140737488355328) : Says ρ Tryd.prog 15 [.ps len n] (.bool (wordM len n)) := by
  refine says_run (call := over 26 (ovB letterB) (over 27 ovRun call0)) follows globL_ok (over_ok (ovB_ok letter_says) (over_ok ovRun_ok call0_ok)) (arg1 rfl) ?_
  repeat' ((conv => lhs; whnf); first | ((conv => lhs; arg 1; whnf); refine valK_ok ?_) | refine forceB_ok ?_ | refine forceN_add ?_ | refine forceN_sub ?_ | refine forceN_suc ?_ | refine forceN_part ?_ | refine forceN_byte ?_ | refine forceN_ok ?_ | refine forceZ_add ?_ | refine forceZ_mul (by (try simp only [maxK]); omega) ?_ | refine forceZ_sub ?_ | refine forceZ_ok ?_ | refine rowAt_ok (byteRows_get (by (try simp only [maxK]); omega)) ?_ | (apply rowAt_ok; (focus assumption)) | refine br_true (Nat.beq_refl _) ?_ | refine br_true (by assumption) ?_ | refine br_false (by assumption) ?_ | refine br_max (by (try simp only [maxK]); omega) ?_ | refine br_ble_t (by (try simp only [maxK]); omega) ?_ | refine br_ble_f (by (try simp only [maxK]); omega) ?_ | refine br_beq_f (by (try simp only [maxK]); omega) ?_ | refine br_true (by simp only [Bool.and_eq_true, Nat.ble_eq]; (try simp only []); omega) ?_ | (refine br_ble (fun h => ?_) (fun h => ?_) <;> (try simp only [] at h)) | (refine br_beq (fun h => ?_) (fun h => ?_) <;> (try simp only [] at h)) | refine br_split (fun h => ?_) (fun h => ?_) | fail)
  all_goals refine okIf_ok (frz_bool ?_)
  all_goals (try simp only [Nat.pow_zero, Nat.div_one] at *)
  all_goals (first | (rw [Bool.eq_iff_iff]; simp only [wordM, Bool.and_eq_true, Bool.or_eq_true, Bool.not_eq_true', Nat.ble_eq, Nat.beq_eq, Bool.false_eq_true, Bool.true_eq_false, true_iff, false_iff, iff_true, iff_false, beq_false_iff, ble_false_iff] <;> omega) | (simp_all [wordM]; done) | (rw [Bool.eq_iff_iff]; simp_all [wordM] <;> omega))

/-- Over so many bytes of one line. -/
theorem skip_says (len n line col k : Nat) (hk : k ≤ len) (hl : len ≤ 140737488355328) (hc : col + k ≤ 9223372036854775807) :
    SaysM ρ Tryd.prog 35 (fun _ _ => False) [.ps len n, .int .i64 (.ofNat line), .int .i64 (.ofNat col)] [.int .i64 (.ofNat k)] (.tup []) [.ps (len - k) (n / 256 ^ k), .int .i64 (.ofNat line), .int .i64 (.ofNat (col + k))] := by
  refine .wf (i := 0) rfl fun hn => ?_
  have e : (fun _ _ => False : Nat → Nat → Prop) = inL [] 0 := by rw [inL_nil]
  rw [e]
  refine saysM_run (call := call0) follows globL_ok call0_ok (fun q hq => by simp at hq; rcases hq with rfl | rfl | rfl <;> rfl) (arg1 rfl) ?_
  repeat' ((conv => lhs; whnf); first | ((conv => lhs; arg 1; whnf); refine valK_ok ?_) | refine forceB_ok ?_ | refine forceN_add ?_ | refine forceN_sub ?_ | refine forceN_suc ?_ | refine forceN_part ?_ | refine forceN_byte ?_ | refine forceN_ok ?_ | refine forceZ_add ?_ | refine forceZ_mul (by (try simp only [maxK]); omega) ?_ | refine forceZ_sub ?_ | refine forceZ_ok ?_ | refine rowAt_ok (byteRows_get (by (try simp only [maxK]); omega)) ?_ | (apply rowAt_ok; (focus assumption)) | refine br_true (Nat.beq_refl _) ?_ | refine br_true (by assumption) ?_ | refine br_false (by assumption) ?_ | refine br_max (by (try simp only [maxK]); omega) ?_ | refine br_ble_t (by (try simp only [maxK]); omega) ?_ | refine br_ble_f (by (try simp only [maxK]); omega) ?_ | refine br_beq_f (by (try simp only [maxK]); omega) ?_ | refine br_true (by simp only [Bool.and_eq_true, Nat.ble_eq]; (try simp only []); omega) ?_ | (refine br_ble (fun h => ?_) (fun h => ?_) <;> (try simp only [] at h)) | (refine br_beq (fun h => ?_) (fun h => ?_) <;> (try simp only [] at h)) | refine br_split (fun h => ?_) (fun h => ?_) | fail)
  conv => lhs; whnf
  refine okIf_ok ⟨frz_nil, frz_row rfl ?_ (by simp [V.flat, V.one])⟩
  rw [part_eq hn hk]

end Go.Proofs.YtjljgldgkkfckaaDoor.M
