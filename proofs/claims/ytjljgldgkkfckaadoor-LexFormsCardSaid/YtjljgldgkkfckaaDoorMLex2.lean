/- The lexer's reader. -/
import Derived.Test.YtjljgldgkkfckaaDoorMLex1
namespace Go.Proofs.YtjljgldgkkfckaaDoor.M
open Go
set_option linter.unusedSimpArgs false
set_option linter.unusedVariables false
variable {ρ : Nat → Value}

attribute [local irreducible] forceN forceZ forceB okIf roundsK valK rowAt
set_option maxRecDepth 100000

noncomputable def ovSkip : OvT := ovM fun row args => match row, args with
  | [.ps len n, .int .i64 (.ofNat line), .int .i64 (.ofNat col)], [.int .i64 (.ofNat k)] =>
    some (Nat.ble k len && Nat.ble len 140737488355328 && Nat.ble (col + k) 9223372036854775807, .tup [], [.ps (len - k) (n / 256 ^ k), .int .i64 (.ofNat line), .int .i64 (.ofNat (col + k))])
  | _, _ => none
theorem ovSkip_ok : OvOK ρ Tryd.prog 35 ovSkip := ov_saysM fun row args v row' h => by
  split at h
  · injection h with h
    injection h with h1 h2
    injection h2 with h2 h3
    subst h2 h3
    simp only [Bool.and_eq_true, Nat.ble_eq] at h1
    exact skip_says _ _ _ _ _ h1.1.1 h1.1.2 h1.2
  · cases h

theorem blanks_says (len n line col : Nat) (hl : len ≤ 140737488355328) (hline : line ≤ 140737488355328) (hcol : col ≤ 140737488355328) (R : Nat × Nat × Nat × Nat) (hR : blanksF len len n line col = R) :
    SaysM ρ Tryd.prog 22 (fun _ _ => False) [.ps len n, .int .i64 (.ofNat line), .int .i64 (.ofNat col)] [] (.tup []) [.ps R.1 R.2.1, .int .i64 (.ofNat R.2.2.1), .int .i64 (.ofNat R.2.2.2)] := by
  refine .wf (i := 0) rfl fun hn => ?_
  rw [show (fun _ _ => False : Nat → Nat → Prop) = inL [] 0 by rw [inL_nil]]
  refine saysM_run (call := over 27 ovRun (over 35 ovSkip call0)) follows globL_ok (over_ok ovRun_ok (over_ok ovSkip_ok call0_ok)) (fun q hq => by simp at hq; rcases hq with rfl | rfl | rfl <;> rfl) (fun q hq => by cases hq) ?_
  repeat' ((conv => lhs; whnf); first | ((conv => lhs; arg 1; whnf); refine valK_ok ?_) | refine forceB_ok ?_ | refine forceN_add ?_ | refine forceN_sub ?_ | refine forceN_suc ?_ | refine forceN_part ?_ | refine forceN_byte ?_ | refine forceN_ok ?_ | refine forceZ_add ?_ | refine forceZ_mul (by (try simp only [maxK]); omega) ?_ | refine forceZ_sub ?_ | refine forceZ_ok ?_ | refine rowAt_ok (byteRows_get (by (try simp only [maxK]); omega)) ?_ | (apply rowAt_ok; (focus assumption)) | refine br_true (Nat.beq_refl _) ?_ | refine br_true (by assumption) ?_ | refine br_false (by assumption) ?_ | refine br_max (by (try simp only [maxK]); omega) ?_ | refine br_ble_t (by (try simp only [maxK]); omega) ?_ | refine br_ble_f (by (try simp only [maxK]); omega) ?_ | refine br_beq_f (by (try simp only [maxK]); omega) ?_ | refine br_true (by simp only [Bool.and_eq_true, Nat.ble_eq]; (try simp only []); omega) ?_ | (refine br_ble (fun h => ?_) (fun h => ?_) <;> (try simp only [] at h)) | (refine br_beq (fun h => ?_) (fun h => ?_) <;> (try simp only [] at h)) | refine br_split (fun h => ?_) (fun h => ?_) | fail)
  conv => lhs; whnf
  refine loop_ok (fun m tm hp nx => ∃ l x li co, hp = hpR [.ps l x, .int .i64 (.ofNat li), .int .i64 (.ofNat co)] ∧ x < 256 ^ l ∧ l ≤ m ∧ l ≤ len ∧ li + l ≤ 281474976710656 ∧ co + l ≤ 281474976710656 ∧ blanksF m l x li co = R ∧ get2 tm 0 = .ptr 0 0 0 ∧ get2 tm 255 = .un) (m := len) (by omega) ⟨len, n, line, col, rfl, hn, by omega, by omega, by omega, by omega, hR, rfl, rfl⟩ ?_
  rintro m tm hp nx ⟨l, x, li, co, rfl, hx, hm, hlen, hli, hco, hB, e0, e255⟩ k hk
  (obtain ⟨y0, y1, y2, y3, y4, y5, y6, y7, y8, y9, y10, y11, y12, y13, y14, y15⟩ := tm; obtain ⟨x0, x1, x2, x3, x4, x5, x6, x7, x8, x9, x10, x11, x12, x13, x14, x15⟩ := y0; obtain ⟨x16, x17, x18, x19, x20, x21, x22, x23, x24, x25, x26, x27, x28, x29, x30, x31⟩ := y1; obtain ⟨x32, x33, x34, x35, x36, x37, x38, x39, x40, x41, x42, x43, x44, x45, x46, x47⟩ := y2; obtain ⟨x240, x241, x242, x243, x244, x245, x246, x247, x248, x249, x250, x251, x252, x253, x254, x255⟩ := y15)
  cases e0
  cases e255
  have hrl := runP_le lineB l x
  repeat' ((conv => lhs; whnf); first | ((conv => lhs; arg 1; whnf); refine valK_ok ?_) | refine forceB_ok ?_ | refine forceN_add ?_ | refine forceN_sub ?_ | refine forceN_suc ?_ | refine forceN_part ?_ | refine forceN_byte ?_ | refine forceN_ok ?_ | refine forceZ_add ?_ | refine forceZ_mul (by (try simp only [maxK]); omega) ?_ | refine forceZ_sub ?_ | refine forceZ_ok ?_ | refine rowAt_ok (byteRows_get (by (try simp only [maxK]); omega)) ?_ | (apply rowAt_ok; (focus assumption)) | refine br_true (Nat.beq_refl _) ?_ | refine br_true (by assumption) ?_ | refine br_false (by assumption) ?_ | refine br_max (by (try simp only [maxK]); omega) ?_ | refine br_ble_t (by (try simp only [maxK]); omega) ?_ | refine br_ble_f (by (try simp only [maxK]); omega) ?_ | refine br_beq_f (by (try simp only [maxK]); omega) ?_ | refine br_true (by simp only [Bool.and_eq_true, Nat.ble_eq]; (try simp only []); omega) ?_ | (refine br_ble (fun h => ?_) (fun h => ?_) <;> (try simp only [] at h)) | (refine br_beq (fun h => ?_) (fun h => ?_) <;> (try simp only [] at h)) | refine br_split (fun h => ?_) (fun h => ?_) | fail)
  all_goals (try (conv => lhs; whnf))
  all_goals (try simp only [byte0] at *)
  all_goals (try have hl1 : 1 ≤ l := ‹Nat.succ 0 ≤ l›)
  · obtain ⟨m, rfl⟩ : ∃ j, m = j + 1 := ⟨m - 1, by omega⟩
    rw [blanks_blank hl1 (.inl ‹_›), ← Nat.pow_one 256] at hB
    exact hk m _ _ _ (by omega) ⟨l - 1, x / 256 ^ 1, li, co + 1, rfl, part_lt hx hl1, by omega, by omega, by omega, by omega, hB, rfl, rfl⟩
  · obtain ⟨m, rfl⟩ : ∃ j, m = j + 1 := ⟨m - 1, by omega⟩
    rw [blanks_blank hl1 (.inr ‹_›), ← Nat.pow_one 256] at hB
    exact hk m _ _ _ (by omega) ⟨l - 1, x / 256 ^ 1, li, co + 1, rfl, part_lt hx hl1, by omega, by omega, by omega, by omega, hB, rfl, rfl⟩
  · obtain ⟨m, rfl⟩ : ∃ j, m = j + 1 := ⟨m - 1, by omega⟩
    rw [blanks_line hl1 ‹_›, ← Nat.pow_one 256] at hB
    refine hk m _ _ _ (by omega) ⟨l - 1, x / 256 ^ 1, li + 1, 1, ?_, part_lt hx hl1, by omega, by omega, by omega, by omega, hB, rfl, rfl⟩
    rw [part_eq hx hl1]
    rfl
  · obtain ⟨m, rfl⟩ : ∃ j, m = j + 1 := ⟨m - 1, by omega⟩
    rw [blanks_word hl1 ‹_›] at hB
    have hpos := runP_pos (p := lineB) hl1 (by rw [‹x % 256 = 35›]; rfl)
    exact hk m _ _ _ (by omega) ⟨l - runP lineB l x, x / 256 ^ runP lineB l x, li, co + runP lineB l x, rfl, part_lt hx hrl, by omega, by omega, by omega, by omega, hB, rfl, rfl⟩
  · rw [blanks_end (.inr ⟨‹_›, ‹_›, ‹_›, ‹_›⟩)] at hB
    subst hB
    exact okIf_ok ⟨frz_nil, frz_row rfl rfl (by simp [V.flat, V.one])⟩
  · rw [blanks_end (.inl (by omega))] at hB
    subst hB
    exact okIf_ok ⟨frz_nil, frz_row rfl rfl (by simp [V.flat, V.one])⟩

end Go.Proofs.YtjljgldgkkfckaaDoor.M
