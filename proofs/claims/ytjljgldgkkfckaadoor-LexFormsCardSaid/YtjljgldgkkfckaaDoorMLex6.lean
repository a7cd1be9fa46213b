/- The document's lexer: pieces. -/
import Derived.Test.YtjljgldgkkfckaaDoorMLex5
namespace Go.Proofs.YtjljgldgkkfckaaDoor.M
open Go
set_option linter.unusedSimpArgs false
set_option linter.unusedVariables false
variable {ρ : Nat → Value}

attribute [local irreducible] forceN forceZ forceB okIf roundsK valK rowAt
set_option maxRecDepth 100000

theorem rletter_says (c : Nat) : Says ρ Tryd.prog 30 [.int .u8 (.ofNat c)] (.bool (letterB c)) := by
  refine says_run (call := call0) follows globL_ok call0_ok (arg1 rfl) ?_
  repeat' ((conv => lhs; whnf); first | ((conv => lhs; arg 1; whnf); refine valK_ok ?_) | refine forceB_ok ?_ | refine forceN_add ?_ | refine forceN_sub ?_ | refine forceN_suc ?_ | refine forceN_part ?_ | refine forceN_byte ?_ | refine forceN_ok ?_ | refine forceZ_add ?_ | refine forceZ_mul (by (try simp only [maxK]); omega) ?_ | refine forceZ_sub ?_ | refine forceZ_ok ?_ | refine rowAt_ok (byteRows_get (by (try simp only [maxK]); omega)) ?_ | (apply rowAt_ok; (focus assumption)) | refine br_true (Nat.beq_refl _) ?_ | refine br_true (by assumption) ?_ | refine br_false (by assumption) ?_ | refine br_max (by (try simp only [maxK]); omega) ?_ | refine br_ble_t (by (try simp only [maxK]); omega) ?_ | refine br_ble_f (by (try simp only [maxK]); omega) ?_ | refine br_beq_f (by (try simp only [maxK]); omega) ?_ | refine br_true (by simp only [Bool.and_eq_true, Nat.ble_eq]; (try simp only []); omega) ?_ | (refine br_ble (fun h => ?_) (fun h => ?_) <;> (try simp only [] at h)) | (refine br_beq (fun h => ?_) (fun h => ?_) <;> (try simp only [] at h)) | refine br_split (fun h => ?_) (fun h => ?_) | fail)
  all_goals refine okIf_ok (frz_bool ?_)
  all_goals (first | (rw [Bool.eq_iff_iff]; simp only [letterB, Bool.and_eq_true, Bool.or_eq_true, Bool.not_eq_true', Nat.ble_eq, Nat.beq_eq, Bool.false_eq_true, Bool.true_eq_false, true_iff, false_iff, iff_true, iff_false, beq_false_iff, ble_false_iff] <;> omega) | (simp_all [letterB]; done) | (rw [Bool.eq_iff_iff]; simp_all [letterB] <;> omega))

theorem rdigit_says (c : Nat) : Says ρ Tryd.prog 31 [.int .u8 (.ofNat c)] (.bool (digitB c)) := by
  refine says_run (call := call0) follows globL_ok call0_ok (arg1 rfl) ?_
  repeat' ((conv => lhs; whnf); first | ((conv => lhs; arg 1; whnf); refine valK_ok ?_) | refine forceB_ok ?_ | refine forceN_add ?_ | refine forceN_sub ?_ | refine forceN_suc ?_ | refine forceN_part ?_ | refine forceN_byte ?_ | refine forceN_ok ?_ | refine forceZ_add ?_ | refine forceZ_mul (by (try simp only [maxK]); omega) ?_ | refine forceZ_sub ?_ | refine forceZ_ok ?_ | refine rowAt_ok (byteRows_get (by (try simp only [maxK]); omega)) ?_ | (apply rowAt_ok; (focus assumption)) | refine br_true (Nat.beq_refl _) ?_ | refine br_true (by assumption) ?_ | refine br_false (by assumption) ?_ | refine br_max (by (try simp only [maxK]); omega) ?_ | refine br_ble_t (by (try simp only [maxK]); omega) ?_ | refine br_ble_f (by (try simp only [maxK]); omega) ?_ | refine br_beq_f (by (try simp only [maxK]); omega) ?_ | refine br_true (by simp only [Bool.and_eq_true, Nat.ble_eq]; (try simp only []); omega) ?_ | (refine br_ble (fun h => ?_) (fun h => ?_) <;> (try simp only [] at h)) | (refine br_beq (fun h => ?_) (fun h => ?_) <;> (try simp only [] at h)) | refine br_split (fun h => ?_) (fun h => ?_) | fail)
  all_goals refine okIf_ok (frz_bool ?_)
  all_goals (first | (rw [Bool.eq_iff_iff]; simp only [digitB, Bool.and_eq_true, Bool.or_eq_true, Bool.not_eq_true', Nat.ble_eq, Nat.beq_eq, Bool.false_eq_true, Bool.true_eq_false, true_iff, false_iff, iff_true, iff_false, beq_false_iff, ble_false_iff] <;> omega) | (simp_all [digitB]; done) | (rw [Bool.eq_iff_iff]; simp_all [digitB] <;> omega))

theorem has_sign : ∀ c, c < 256 → (hasB signsL signsN c == signB c) = true := by decide +kernel

theorem sign_says (c : Nat) (hc : c < 256) : Says ρ Tryd.prog 40 [.int .u8 (.ofNat c)] (.bool (signB c)) := by
  have hs := has_sign c hc
  simp only [beq_iff_eq] at hs
  rw [← hs]
  refine says_run (call := call0) follows globL_ok call0_ok (arg1 rfl) ?_
  repeat' ((conv => lhs; whnf); first | ((conv => lhs; arg 1; whnf); refine valK_ok ?_) | refine forceB_ok ?_ | refine forceN_add ?_ | refine forceN_sub ?_ | refine forceN_suc ?_ | refine forceN_part ?_ | refine forceN_byte ?_ | refine forceN_ok ?_ | refine forceZ_add ?_ | refine forceZ_mul (by (try simp only [maxK]); omega) ?_ | refine forceZ_sub ?_ | refine forceZ_ok ?_ | refine rowAt_ok (byteRows_get (by (try simp only [maxK]); omega)) ?_ | (apply rowAt_ok; (focus assumption)) | refine br_true (Nat.beq_refl _) ?_ | refine br_true (by assumption) ?_ | refine br_false (by assumption) ?_ | refine br_max (by (try simp only [maxK]); omega) ?_ | refine br_ble_t (by (try simp only [maxK]); omega) ?_ | refine br_ble_f (by (try simp only [maxK]); omega) ?_ | refine br_beq_f (by (try simp only [maxK]); omega) ?_ | refine br_true (by simp only [Bool.and_eq_true, Nat.ble_eq]; (try simp only []); omega) ?_ | (refine br_ble (fun h => ?_) (fun h => ?_) <;> (try simp only [] at h)) | (refine br_beq (fun h => ?_) (fun h => ?_) <;> (try simp only [] at h)) | refine br_split (fun h => ?_) (fun h => ?_) | fail)
  conv => lhs; whnf
  refine loop_ok (fun m tm hp nx => ∃ i, m = signsL - i ∧ i ≤ signsL ∧ hasB signsL signsN c = hasB (signsL - i) (signsN / 256 ^ i) c ∧ hp = hp0 ∧ get2 tm 0 = .int .u8 (.ofNat c) ∧ get2 tm 3 = .ps signsL signsN ∧ get2 tm 4 = .int .i64 (.ofNat i) ∧ get2 tm 255 = .un) (m := signsL) (by decide)
    ⟨0, rfl, by omega, by simp, rfl, rfl, rfl, rfl, rfl⟩ ?_
  rintro m tm hp nx ⟨i, rfl, hi, hv, rfl, e0, e3, e4, e255⟩ k hk
  (obtain ⟨y0, y1, y2, y3, y4, y5, y6, y7, y8, y9, y10, y11, y12, y13, y14, y15⟩ := tm; obtain ⟨x0, x1, x2, x3, x4, x5, x6, x7, x8, x9, x10, x11, x12, x13, x14, x15⟩ := y0; obtain ⟨x240, x241, x242, x243, x244, x245, x246, x247, x248, x249, x250, x251, x252, x253, x254, x255⟩ := y15)
  cases e0
  cases e3
  cases e4
  cases e255
  have hL : signsL = 18 := rfl
  have hst := fun h => @hasB_step i signsL signsN c h
  repeat' ((conv => lhs; whnf); first | ((conv => lhs; arg 1; whnf); refine valK_ok ?_) | refine forceB_ok ?_ | refine forceN_add ?_ | refine forceN_sub ?_ | refine forceN_suc ?_ | refine forceN_part ?_ | refine forceN_byte ?_ | refine forceN_ok ?_ | refine forceZ_add ?_ | refine forceZ_mul (by (try simp only [maxK]); omega) ?_ | refine forceZ_sub ?_ | refine forceZ_ok ?_ | refine rowAt_ok (byteRows_get (by (try simp only [maxK]); omega)) ?_ | (apply rowAt_ok; (focus assumption)) | refine br_true (Nat.beq_refl _) ?_ | refine br_true (by assumption) ?_ | refine br_false (by assumption) ?_ | refine br_max (by (try simp only [maxK]); omega) ?_ | refine br_ble_t (by (try simp only [maxK]); omega) ?_ | refine br_ble_f (by (try simp only [maxK]); omega) ?_ | refine br_beq_f (by (try simp only [maxK]); omega) ?_ | refine br_true (by simp only [Bool.and_eq_true, Nat.ble_eq]; (try simp only []); omega) ?_ | (refine br_ble (fun h => ?_) (fun h => ?_) <;> (try simp only [] at h)) | (refine br_beq (fun h => ?_) (fun h => ?_) <;> (try simp only [] at h)) | refine br_split (fun h => ?_) (fun h => ?_) | fail)
  all_goals (try (conv => lhs; whnf))
  · refine okIf_ok (frz_bool ?_)
    rw [hv, hst (by omega), Nat.beq_eq.mpr ‹_›]
  · refine hk _ _ _ _ (by omega) ⟨i + 1, rfl, by omega, ?_, rfl, rfl, rfl, rfl, rfl⟩
    rw [hv, hst (by omega), beq_false_iff.mpr ‹_›]
  · refine okIf_ok (frz_bool ?_)
    rw [hv, show signsL - i = 0 by omega]
    rfl

theorem number_says (len n : Nat) (h9 : len ≤ 9) (hd : runP digitB len n = len) : Says ρ Tryd.prog 25 [.ps len n] (.int .i64 (.ofNat (numP len n 0))) := by
  refine says_run (call := call0) follows globL_ok call0_ok (arg1 rfl) ?_
  have hdig : ∀ i, i < len → 48 ≤ n / 256 ^ i % 256 ∧ n / 256 ^ i % 256 ≤ 57 := fun i hi => by
    have := runP_all hd hi
    simp only [digitB, Bool.and_eq_true, Nat.ble_eq] at this
    exact this
  repeat' ((conv => lhs; whnf); first | ((conv => lhs; arg 1; whnf); refine valK_ok ?_) | refine forceB_ok ?_ | refine forceN_add ?_ | refine forceN_sub ?_ | refine forceN_suc ?_ | refine forceN_part ?_ | refine forceN_byte ?_ | refine forceN_ok ?_ | refine forceZ_add ?_ | refine forceZ_mul (by (try simp only [maxK]); omega) ?_ | refine forceZ_sub ?_ | refine forceZ_ok ?_ | refine rowAt_ok (byteRows_get (by (try simp only [maxK]); omega)) ?_ | (apply rowAt_ok; (focus assumption)) | refine br_true (Nat.beq_refl _) ?_ | refine br_true (by assumption) ?_ | refine br_false (by assumption) ?_ | refine br_max (by (try simp only [maxK]); omega) ?_ | refine br_ble_t (by (try simp only [maxK]); omega) ?_ | refine br_ble_f (by (try simp only [maxK]); omega) ?_ | refine br_beq_f (by (try simp only [maxK]); omega) ?_ | refine br_true (by simp only [Bool.and_eq_true, Nat.ble_eq]; (try simp only []); omega) ?_ | (refine br_ble (fun h => ?_) (fun h => ?_) <;> (try simp only [] at h)) | (refine br_beq (fun h => ?_) (fun h => ?_) <;> (try simp only [] at h)) | refine br_split (fun h => ?_) (fun h => ?_) | fail)
  conv => lhs; whnf
  refine loop_ok (fun m tm hp nx => ∃ i a, m = len - i ∧ i ≤ len ∧ a < 10 ^ i ∧ hp = hp0 ∧ numP len n 0 = numP (len - i) (n / 256 ^ i) a ∧ get2 tm 0 = .ps len n ∧ get2 tm 3 = .int .i64 (.ofNat a) ∧ get2 tm 4 = .int .i64 (.ofNat i) ∧ get2 tm 255 = .un) (m := len) (by omega)
    ⟨0, 0, rfl, by omega, by simp, rfl, by simp, rfl, rfl, rfl, rfl⟩ ?_
  rintro m tm hp nx ⟨i, a, rfl, hi, ha, rfl, hv, e0, e3, e4, e255⟩ k hk
  (obtain ⟨y0, y1, y2, y3, y4, y5, y6, y7, y8, y9, y10, y11, y12, y13, y14, y15⟩ := tm; obtain ⟨x0, x1, x2, x3, x4, x5, x6, x7, x8, x9, x10, x11, x12, x13, x14, x15⟩ := y0; obtain ⟨x16, x17, x18, x19, x20, x21, x22, x23, x24, x25, x26, x27, x28, x29, x30, x31⟩ := y1; obtain ⟨x240, x241, x242, x243, x244, x245, x246, x247, x248, x249, x250, x251, x252, x253, x254, x255⟩ := y15)
  cases e0
  cases e3
  cases e4
  cases e255
  have hpow : 10 ^ i ≤ 10 ^ 9 := Nat.pow_le_pow_right (by omega) (by omega)
  have hdi := hdig i
  have hst := fun h => @numP_step i len n a h
  by_cases hlt : i < len
  · have hdi := hdi hlt
    have hst := hst hlt
    clear hdig
    repeat' ((conv => lhs; whnf); first | ((conv => lhs; arg 1; whnf); refine valK_ok ?_) | refine forceB_ok ?_ | refine forceN_add ?_ | refine forceN_sub ?_ | refine forceN_suc ?_ | refine forceN_part ?_ | refine forceN_byte ?_ | refine forceN_ok ?_ | refine forceZ_add ?_ | refine forceZ_mul (by (try simp only [maxK]); omega) ?_ | refine forceZ_sub ?_ | refine forceZ_ok ?_ | refine rowAt_ok (byteRows_get (by (try simp only [maxK]); omega)) ?_ | (apply rowAt_ok; (focus assumption)) | refine br_true (Nat.beq_refl _) ?_ | refine br_true (by assumption) ?_ | refine br_false (by assumption) ?_ | refine br_max (by (try simp only [maxK]); omega) ?_ | refine br_ble_t (by (try simp only [maxK]); omega) ?_ | refine br_ble_f (by (try simp only [maxK]); omega) ?_ | refine br_beq_f (by (try simp only [maxK]); omega) ?_ | refine br_true (by simp only [Bool.and_eq_true, Nat.ble_eq]; (try simp only []); omega) ?_ | (refine br_ble (fun h => ?_) (fun h => ?_) <;> (try simp only [] at h)) | (refine br_beq (fun h => ?_) (fun h => ?_) <;> (try simp only [] at h)) | refine br_split (fun h => ?_) (fun h => ?_) | fail)
    conv => lhs; whnf
    refine hk _ _ _ _ (by omega) ⟨i + 1, 10 * a + (n / 256 ^ i % 256 - 48), rfl, by omega, ?_, rfl, ?_, rfl, rfl, rfl, rfl⟩
    · rw [Nat.pow_succ]
      omega
    · rw [hv, hst, Nat.mul_comm a 10]
  · repeat' ((conv => lhs; whnf); first | ((conv => lhs; arg 1; whnf); refine valK_ok ?_) | refine forceB_ok ?_ | refine forceN_add ?_ | refine forceN_sub ?_ | refine forceN_suc ?_ | refine forceN_part ?_ | refine forceN_byte ?_ | refine forceN_ok ?_ | refine forceZ_add ?_ | refine forceZ_mul (by (try simp only [maxK]); omega) ?_ | refine forceZ_sub ?_ | refine forceZ_ok ?_ | refine rowAt_ok (byteRows_get (by (try simp only [maxK]); omega)) ?_ | (apply rowAt_ok; (focus assumption)) | refine br_true (Nat.beq_refl _) ?_ | refine br_true (by assumption) ?_ | refine br_false (by assumption) ?_ | refine br_max (by (try simp only [maxK]); omega) ?_ | refine br_ble_t (by (try simp only [maxK]); omega) ?_ | refine br_ble_f (by (try simp only [maxK]); omega) ?_ | refine br_beq_f (by (try simp only [maxK]); omega) ?_ | refine br_true (by simp only [Bool.and_eq_true, Nat.ble_eq]; (try simp only []); omega) ?_ | (refine br_ble (fun h => ?_) (fun h => ?_) <;> (try simp only [] at h)) | (refine br_beq (fun h => ?_) (fun h => ?_) <;> (try simp only [] at h)) | refine br_split (fun h => ?_) (fun h => ?_) | fail)
    refine okIf_ok (frz_int ?_)
    rw [hv, show len - i = 0 by omega]
    rfl

noncomputable def ovSign : OvT := ovF fun | [.int .u8 (.ofNat c)] => some (Nat.ble c 255, .bool (signB c)) | _ => none
theorem ovSign_ok : OvOK ρ Tryd.prog 40 ovSign := ov_says fun args v h => by
  split at h
  · injection h with h
    injection h with g1 g2
    subst g2
    exact sign_says _ (by have := Nat.le_of_ble_eq_true g1; omega)
  · cases h

theorem piece_says (len n i : Nat) (hl : len ≤ 140737488355328) (hi : i < len) : Says ρ Tryd.prog 24 [.ps len n, .int .i64 (.ofNat i)] (.tup [.int .i64 (.ofNat (pieceM len n i).1), .int .i64 (.ofNat (pieceM len n i).2)]) := by
  refine says_run (call := over 30 (ovB letterB) (over 31 (ovB digitB) (over 40 ovSign call0))) follows globL_ok (over_ok (ovB_ok rletter_says) (over_ok (ovB_ok rdigit_says) (over_ok ovSign_ok call0_ok))) (fun q hq => by simp at hq; rcases hq with rfl | rfl <;> exact .flat _ rfl) ?_
  have hmod : n / 256 ^ i % 256 < 256 := Nat.mod_lt _ (by omega)
  have hpos : 0 < len - i := by omega
  repeat' ((conv => lhs; whnf); first | ((conv => lhs; arg 1; whnf); refine valK_ok ?_) | refine forceB_ok ?_ | refine forceN_add ?_ | refine forceN_sub ?_ | refine forceN_suc ?_ | refine forceN_part ?_ | refine forceN_byte ?_ | refine forceN_ok ?_ | refine forceZ_add ?_ | refine forceZ_mul (by (try simp only [maxK]); omega) ?_ | refine forceZ_sub ?_ | refine forceZ_ok ?_ | refine rowAt_ok (byteRows_get (by (try simp only [maxK]); omega)) ?_ | (apply rowAt_ok; (focus assumption)) | refine br_true (Nat.beq_refl _) ?_ | refine br_true (by assumption) ?_ | refine br_false (by assumption) ?_ | refine br_max (by (try simp only [maxK]); omega) ?_ | refine br_ble_t (by (try simp only [maxK]); omega) ?_ | refine br_ble_f (by (try simp only [maxK]); omega) ?_ | refine br_beq_f (by (try simp only [maxK]); omega) ?_ | refine br_true (by simp only [Bool.and_eq_true, Nat.ble_eq]; (try simp only []); omega) ?_ | (refine br_ble (fun h => ?_) (fun h => ?_) <;> (try simp only [] at h)) | (refine br_beq (fun h => ?_) (fun h => ?_) <;> (try simp only [] at h)) | refine br_split (fun h => ?_) (fun h => ?_) | fail)
  all_goals (try (conv => lhs; whnf))
  · refine loop_ok (fun m tm hp nx => ∃ K, m = len - K ∧ i ≤ K ∧ K ≤ len ∧ K + runP innerB (len - K) (n / 256 ^ K) = i + runP innerB (len - i) (n / 256 ^ i) ∧ hp = hp0 ∧ get2 tm 0 = .ps len n ∧ get2 tm 1 = .int .i64 (.ofNat i) ∧ get2 tm 6 = .int .i64 (.ofNat K) ∧ get2 tm 255 = .un) (m := len - i) (by omega)
      ⟨i, rfl, by omega, by omega, rfl, rfl, rfl, rfl, rfl, rfl⟩ ?_
    rintro m tm hp nx ⟨K, rfl, hiK, hK, hE, rfl, e0, e1, e6, e255⟩ k hk
    (obtain ⟨y0, y1, y2, y3, y4, y5, y6, y7, y8, y9, y10, y11, y12, y13, y14, y15⟩ := tm; obtain ⟨x0, x1, x2, x3, x4, x5, x6, x7, x8, x9, x10, x11, x12, x13, x14, x15⟩ := y0; obtain ⟨x16, x17, x18, x19, x20, x21, x22, x23, x24, x25, x26, x27, x28, x29, x30, x31⟩ := y1; obtain ⟨x32, x33, x34, x35, x36, x37, x38, x39, x40, x41, x42, x43, x44, x45, x46, x47⟩ := y2; obtain ⟨x48, x49, x50, x51, x52, x53, x54, x55, x56, x57, x58, x59, x60, x61, x62, x63⟩ := y3; obtain ⟨x64, x65, x66, x67, x68, x69, x70, x71, x72, x73, x74, x75, x76, x77, x78, x79⟩ := y4; obtain ⟨x80, x81, x82, x83, x84, x85, x86, x87, x88, x89, x90, x91, x92, x93, x94, x95⟩ := y5; obtain ⟨x240, x241, x242, x243, x244, x245, x246, x247, x248, x249, x250, x251, x252, x253, x254, x255⟩ := y15)
    cases e0
    cases e1
    cases e6
    cases e255
    have hst := fun h => @runP_step innerB K len n h
    have hmodK : n / 256 ^ K % 256 < 256 := Nat.mod_lt _ (by omega)
    have hgo : ∀ (h : K < len), innerB (n / 256 ^ K % 256) = true → K + 1 + runP innerB (len - (K + 1)) (n / 256 ^ (K + 1)) = i + runP innerB (len - i) (n / 256 ^ i) := fun h hb => by
      rw [← hE, hst h, hb]
    have hend : (K < len → innerB (n / 256 ^ K % 256) = false) → K = i + runP innerB (len - i) (n / 256 ^ i) := fun hb => by
      rcases Nat.lt_or_ge K len with g | g
      · rw [← hE, hst g, hb g]
      · rw [← hE, show len - K = 0 by omega]; rfl
    clear hst hE
    repeat' ((conv => lhs; whnf); first | ((conv => lhs; arg 1; whnf); refine valK_ok ?_) | refine forceB_ok ?_ | refine forceN_add ?_ | refine forceN_sub ?_ | refine forceN_suc ?_ | refine forceN_part ?_ | refine forceN_byte ?_ | refine forceN_ok ?_ | refine forceZ_add ?_ | refine forceZ_mul (by (try simp only [maxK]); omega) ?_ | refine forceZ_sub ?_ | refine forceZ_ok ?_ | refine rowAt_ok (byteRows_get (by (try simp only [maxK]); omega)) ?_ | (apply rowAt_ok; (focus assumption)) | refine br_true (Nat.beq_refl _) ?_ | refine br_true (by assumption) ?_ | refine br_false (by assumption) ?_ | refine br_max (by (try simp only [maxK]); omega) ?_ | refine br_ble_t (by (try simp only [maxK]); omega) ?_ | refine br_ble_f (by (try simp only [maxK]); omega) ?_ | refine br_beq_f (by (try simp only [maxK]); omega) ?_ | refine br_true (by simp only [Bool.and_eq_true, Nat.ble_eq]; (try simp only []); omega) ?_ | (refine br_ble (fun h => ?_) (fun h => ?_) <;> (try simp only [] at h)) | (refine br_beq (fun h => ?_) (fun h => ?_) <;> (try simp only [] at h)) | refine br_split (fun h => ?_) (fun h => ?_) | fail)
    all_goals (try (conv => lhs; whnf))
    all_goals first
      | exact hk _ _ _ _ (by omega) ⟨K + 1, rfl, by omega, by omega, hgo (by omega) (by rw [innerB, ‹letterB (n / 256 ^ K % 256) = true›]; rfl), rfl, rfl, rfl, rfl, rfl⟩
      | exact hk _ _ _ _ (by omega) ⟨K + 1, rfl, by omega, by omega, hgo (by omega) (by rw [innerB, ‹letterB (n / 256 ^ K % 256) = false›, ‹digitB (n / 256 ^ K % 256) = true›]; rfl), rfl, rfl, rfl, rfl, rfl⟩
      | exact hk _ _ _ _ (by omega) ⟨K + 1, rfl, by omega, by omega, hgo (by omega) (by rw [innerB, ‹letterB (n / 256 ^ K % 256) = false›, ‹digitB (n / 256 ^ K % 256) = false›, ‹n / 256 ^ K % 256 = 95›]; rfl), rfl, rfl, rfl, rfl, rfl⟩
      | skip
    all_goals (
      have hKe := hend (fun hlt => by first | omega | (rw [innerB, ‹letterB (n / 256 ^ K % 256) = false›, ‹digitB (n / 256 ^ K % 256) = false›, beq_false_iff.mpr ‹n / 256 ^ K % 256 ≠ 95›]; rfl))
      refine okIf_ok (frz_cons (frz_int ?_) (frz_cons (frz_int ?_) frz_nil)) <;> first
        | (rw [pieceM, tok_word hpos ‹letterB (n / 256 ^ i % 256) = true› (by omega)]; first | rfl | exact congrArg Int.ofNat hKe)
        | (rw [pieceM, tok_wordNo hpos ‹letterB (n / 256 ^ i % 256) = true› (by omega)]; rfl))
  · refine loop_ok (fun m tm hp nx => ∃ K, m = len - K ∧ i ≤ K ∧ K ≤ len ∧ K + runP digitB (len - K) (n / 256 ^ K) = i + runP digitB (len - i) (n / 256 ^ i) ∧ hp = hp0 ∧ get2 tm 0 = .ps len n ∧ get2 tm 1 = .int .i64 (.ofNat i) ∧ get2 tm 6 = .int .i64 (.ofNat K) ∧ get2 tm 255 = .un) (m := len - i) (by omega)
      ⟨i, rfl, by omega, by omega, rfl, rfl, rfl, rfl, rfl, rfl⟩ ?_
    rintro m tm hp nx ⟨K, rfl, hiK, hK, hE, rfl, e0, e1, e6, e255⟩ k hk
    (obtain ⟨y0, y1, y2, y3, y4, y5, y6, y7, y8, y9, y10, y11, y12, y13, y14, y15⟩ := tm; obtain ⟨x0, x1, x2, x3, x4, x5, x6, x7, x8, x9, x10, x11, x12, x13, x14, x15⟩ := y0; obtain ⟨x16, x17, x18, x19, x20, x21, x22, x23, x24, x25, x26, x27, x28, x29, x30, x31⟩ := y1; obtain ⟨x32, x33, x34, x35, x36, x37, x38, x39, x40, x41, x42, x43, x44, x45, x46, x47⟩ := y2; obtain ⟨x48, x49, x50, x51, x52, x53, x54, x55, x56, x57, x58, x59, x60, x61, x62, x63⟩ := y3; obtain ⟨x64, x65, x66, x67, x68, x69, x70, x71, x72, x73, x74, x75, x76, x77, x78, x79⟩ := y4; obtain ⟨x80, x81, x82, x83, x84, x85, x86, x87, x88, x89, x90, x91, x92, x93, x94, x95⟩ := y5; obtain ⟨x240, x241, x242, x243, x244, x245, x246, x247, x248, x249, x250, x251, x252, x253, x254, x255⟩ := y15)
    cases e0
    cases e1
    cases e6
    cases e255
    have hst := fun h => @runP_step digitB K len n h
    have hmodK : n / 256 ^ K % 256 < 256 := Nat.mod_lt _ (by omega)
    have hgo : ∀ (h : K < len), digitB (n / 256 ^ K % 256) = true → K + 1 + runP digitB (len - (K + 1)) (n / 256 ^ (K + 1)) = i + runP digitB (len - i) (n / 256 ^ i) := fun h hb => by
      rw [← hE, hst h, hb]
    have hend : (K < len → digitB (n / 256 ^ K % 256) = false) → K = i + runP digitB (len - i) (n / 256 ^ i) := fun hb => by
      rcases Nat.lt_or_ge K len with g | g
      · rw [← hE, hst g, hb g]
      · rw [← hE, show len - K = 0 by omega]; rfl
    clear hst hE
    repeat' ((conv => lhs; whnf); first | ((conv => lhs; arg 1; whnf); refine valK_ok ?_) | refine forceB_ok ?_ | refine forceN_add ?_ | refine forceN_sub ?_ | refine forceN_suc ?_ | refine forceN_part ?_ | refine forceN_byte ?_ | refine forceN_ok ?_ | refine forceZ_add ?_ | refine forceZ_mul (by (try simp only [maxK]); omega) ?_ | refine forceZ_sub ?_ | refine forceZ_ok ?_ | refine rowAt_ok (byteRows_get (by (try simp only [maxK]); omega)) ?_ | (apply rowAt_ok; (focus assumption)) | refine br_true (Nat.beq_refl _) ?_ | refine br_true (by assumption) ?_ | refine br_false (by assumption) ?_ | refine br_max (by (try simp only [maxK]); omega) ?_ | refine br_ble_t (by (try simp only [maxK]); omega) ?_ | refine br_ble_f (by (try simp only [maxK]); omega) ?_ | refine br_beq_f (by (try simp only [maxK]); omega) ?_ | refine br_true (by simp only [Bool.and_eq_true, Nat.ble_eq]; (try simp only []); omega) ?_ | (refine br_ble (fun h => ?_) (fun h => ?_) <;> (try simp only [] at h)) | (refine br_beq (fun h => ?_) (fun h => ?_) <;> (try simp only [] at h)) | refine br_split (fun h => ?_) (fun h => ?_) | fail)
    all_goals (try (conv => lhs; whnf))
    all_goals first
      | exact hk _ _ _ _ (by omega) ⟨K + 1, rfl, by omega, by omega, hgo (by omega) ‹digitB (n / 256 ^ K % 256) = true›, rfl, rfl, rfl, rfl, rfl⟩
      | skip
    all_goals (
      have hKe := hend (fun hlt => by first | omega | exact ‹digitB (n / 256 ^ K % 256) = false›)
      refine okIf_ok (frz_cons (frz_int ?_) (frz_cons (frz_int ?_) frz_nil)) <;> first
        | (rw [pieceM, tok_num hpos ‹letterB (n / 256 ^ i % 256) = false› ‹digitB (n / 256 ^ i % 256) = true› (by omega) (by omega)]; first | rfl | exact congrArg Int.ofNat hKe)
        | (rw [pieceM, tok_numNo hpos ‹letterB (n / 256 ^ i % 256) = false› ‹digitB (n / 256 ^ i % 256) = true› (by omega)]; rfl))
  · refine okIf_ok (frz_cons (frz_int ?_) (frz_cons (frz_int ?_) frz_nil)) <;> rw [pieceM, tok_sign hpos ‹letterB _ = false› ‹digitB _ = false› ‹signB _ = true›] <;> rfl
  · refine okIf_ok (frz_cons (frz_int ?_) (frz_cons (frz_int ?_) frz_nil)) <;> rw [pieceM, tok_none hpos ‹letterB _ = false› ‹digitB _ = false› ‹signB _ = false›] <;> rfl

end Go.Proofs.YtjljgldgkkfckaaDoor.M
