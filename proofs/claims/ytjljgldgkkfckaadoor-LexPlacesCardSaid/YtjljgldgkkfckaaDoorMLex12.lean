/- LexPlaces: each token stands where it is said to. -/
import Derived.Test.YtjljgldgkkfckaaDoorMLexJ
namespace Go.Proofs.YtjljgldgkkfckaaDoor.M
open Go
set_option linter.unusedSimpArgs false
set_option linter.unusedVariables false
variable {ρ : Nat → Value}

attribute [local irreducible] forceN forceZ forceB okIf roundsK valK rowAt
attribute [local irreducible] askP toksF aggsK G
set_option maxRecDepth 100000

set_option maxHeartbeats 8000000 in
theorem lexPlaces_says (len n : Nat) (picks : List Int) (hl : len ≤ 140737488355328) (hp : picks.length ≤ 140737488355328) : Says ρ Tryd.prog 4 [.ps len n, .ro 1 (picks.map pickRow)] (.bool true) := by
  have hml : (picks.map pickRow).length ≤ 140737488355328 := by simpa using hp
  have hx := textM_le len n ((picks.map pickRow).map pickOf)
  refine says_run (call := over 8 ovKeep (over 9 ovText (over 10 ovToks (over 13 ovWakes call0)))) follows globL_ok (over_ok ovKeep_ok (over_ok ovText_ok (over_ok (ovToks_ok tokens_says) (over_ok ovWakes_ok call0_ok)))) (arg2 rfl rfl) ?_
  repeat' (first | ((conv => lhs; whnf); first | ((conv => lhs; arg 1; whnf); refine valK_ok ?_) | refine forceB_ok ?_ | refine forceN_add ?_ | refine forceN_sub ?_ | refine forceN_suc ?_ | refine forceN_part ?_ | refine forceN_byte ?_ | refine forceN_ok ?_ | refine forceZ_add ?_ | refine forceZ_mul (by (try simp only [maxK]); omega) ?_ | refine forceZ_sub ?_ | refine forceZ_ok ?_ | refine rowAt_ok (byteRows_get (by (try simp only [maxK]); omega)) ?_ | (apply rowAt_ok; (focus assumption)) | refine br_true (Nat.beq_refl _) ?_ | refine br_true (by assumption) ?_ | refine br_false (by assumption) ?_ | refine br_max (by (try simp only [maxK]); omega) ?_ | refine br_ble_t (by (try simp only [maxK]); omega) ?_ | refine br_ble_f (by (try simp only [maxK]); omega) ?_ | refine br_beq_f (by (try simp only [maxK]); omega) ?_ | refine br_true (by simp only [Bool.and_eq_true, Nat.ble_eq]; (try simp only []); omega) ?_ | (refine br_ble (fun h => ?_) (fun h => ?_) <;> (try simp only [] at h)) | (refine br_beq (fun h => ?_) (fun h => ?_) <;> (try simp only [] at h)) | refine br_split (fun h => ?_) (fun h => ?_) | fail) | ((conv => lhs; whnf); first | refine acc4_upd_ok (by omega) ?_ | refine acc4_get_same (by omega) ?_ | refine acc4_get_other (by omega) (by omega) (by omega) ?_ | refine acc4_get_ok (by omega) (by assumption) ?_ | refine opt3_split (fun h => ?_) (fun kind num tl h => ?_) | refine int_split (fun a h => ?_) (fun a h => ?_) | fail))
  conv => lhs; whnf
  refine askP_ok ⟨hl, hml, picks_of picks⟩ ?_
  generalize hX : (textM len n ((picks.map pickRow).map pickOf)).1 = X at *
  generalize hN : (textM len n ((picks.map pickRow).map pickOf)).2 = N at *
  repeat' (first | (first | ((conv => lhs; whnf); first | ((conv => lhs; arg 1; whnf); refine valK_ok ?_) | refine forceB_ok ?_ | refine forceN_add ?_ | refine forceN_sub ?_ | refine forceN_suc ?_ | refine forceN_part ?_ | refine forceN_byte ?_ | refine forceN_ok ?_ | refine forceZ_add ?_ | refine forceZ_mul (by (try simp only [maxK]); omega) ?_ | refine forceZ_sub ?_ | refine forceZ_ok ?_ | refine rowAt_ok (byteRows_get (by (try simp only [maxK]); omega)) ?_ | (apply rowAt_ok; (focus assumption)) | refine br_true (Nat.beq_refl _) ?_ | refine br_true (by assumption) ?_ | refine br_false (by assumption) ?_ | refine br_max (by (try simp only [maxK]); omega) ?_ | refine br_ble_t (by (try simp only [maxK]); omega) ?_ | refine br_ble_f (by (try simp only [maxK]); omega) ?_ | refine br_beq_f (by (try simp only [maxK]); omega) ?_ | refine br_true (by simp only [Bool.and_eq_true, Nat.ble_eq]; (try simp only []); omega) ?_ | (refine br_ble (fun h => ?_) (fun h => ?_) <;> (try simp only [] at h)) | (refine br_beq (fun h => ?_) (fun h => ?_) <;> (try simp only [] at h)) | refine br_split (fun h => ?_) (fun h => ?_) | fail) | ((conv => lhs; whnf); first | refine acc4_upd_ok (by omega) ?_ | refine acc4_get_same (by omega) ?_ | refine acc4_get_other (by omega) (by omega) (by omega) ?_ | refine acc4_get_ok (by omega) (by assumption) ?_ | refine opt3_split (fun h => ?_) (fun kind num tl h => ?_) | refine int_split (fun a h => ?_) (fun a h => ?_) | fail)) | ((conv => lhs; whnf); first | (apply lex_ok; (focus assumption)) | (apply lex_bad; (focus assumption)) | refine lex_split (fun l h => ?_) (fun a b h => ?_) | refine askP_ok (.inl ⟨_, Nat.le_trans (toksF_le _ _ _ _ _ _ ‹toksF _ _ _ _ _ = LexR.ok _›) (by first | omega | exact Nat.le_trans (Nat.succ_le_succ (Nat.min_le_right _ _)) (by decide)), rfl⟩) ?_ | refine askP_ok (.inr rfl) ?_ | fail))
  all_goals (try (conv => lhs; whnf))
  rotate_left
  · exact okIf_ok (frz_bool rfl)
  have hll : l.length ≤ X + 1 := toksF_le _ _ _ _ _ _ h
  have hml2 : (l.map Tok.row).length = l.length := by simp
  refine loop_ok (fun m tm hp nx => ∃ i j line col, m = X + 1 - i ∧ i ≤ X ∧ line ≤ i + 1 ∧ col ≤ i + 1 ∧ G (X - i) (N / 256 ^ i) line col = .ok (l.drop j) ∧ nx + (X - i) ≤ 2000 ∧
    get2 tm 5 = .ps X N ∧ get2 tm 6 = .ro 5 (l.map Tok.row) ∧ get2 tm 10 = .int .i64 (.ofNat line) ∧ get2 tm 11 = .int .i64 (.ofNat col) ∧ get2 tm 12 = .int .i64 (.ofNat i) ∧ get2 tm 13 = .int .i64 (.ofNat j) ∧ get2 tm 255 = .un) (m := X + 1) (by omega)
    ⟨0, 0, 1, 1, by omega, by omega, by omega, by omega, by rw [Nat.pow_zero, Nat.div_one, List.drop_zero, Nat.sub_zero, ← g_def]; exact h, by omega, rfl, rfl, rfl, rfl, rfl, rfl, rfl⟩ ?_
  rintro m tm hp2 nx ⟨i, j, line, col, rfl, hi, hli, hcol, hres, hnx, e5, e6, e10, e11, e12, e13, e255⟩ k hk
  (obtain ⟨y0, y1, y2, y3, y4, y5, y6, y7, y8, y9, y10, y11, y12, y13, y14, y15⟩ := tm; obtain ⟨x0, x1, x2, x3, x4, x5, x6, x7, x8, x9, x10, x11, x12, x13, x14, x15⟩ := y0; obtain ⟨x16, x17, x18, x19, x20, x21, x22, x23, x24, x25, x26, x27, x28, x29, x30, x31⟩ := y1; obtain ⟨x32, x33, x34, x35, x36, x37, x38, x39, x40, x41, x42, x43, x44, x45, x46, x47⟩ := y2; obtain ⟨x48, x49, x50, x51, x52, x53, x54, x55, x56, x57, x58, x59, x60, x61, x62, x63⟩ := y3; obtain ⟨x64, x65, x66, x67, x68, x69, x70, x71, x72, x73, x74, x75, x76, x77, x78, x79⟩ := y4; obtain ⟨x80, x81, x82, x83, x84, x85, x86, x87, x88, x89, x90, x91, x92, x93, x94, x95⟩ := y5; obtain ⟨x96, x97, x98, x99, x100, x101, x102, x103, x104, x105, x106, x107, x108, x109, x110, x111⟩ := y6; obtain ⟨x112, x113, x114, x115, x116, x117, x118, x119, x120, x121, x122, x123, x124, x125, x126, x127⟩ := y7; obtain ⟨x128, x129, x130, x131, x132, x133, x134, x135, x136, x137, x138, x139, x140, x141, x142, x143⟩ := y8; obtain ⟨x240, x241, x242, x243, x244, x245, x246, x247, x248, x249, x250, x251, x252, x253, x254, x255⟩ := y15)
  cases e5
  cases e6
  cases e10
  cases e11
  cases e12
  cases e13
  cases e255
  obtain ⟨⟨t1, t2, t3, t4, t5, t6⟩, r, hr, hge⟩ := g_head hres
  obtain ⟨hj, hjl, hjr, hjn⟩ := drop_head hr
  have hrow : (l.map Tok.row)[j]? = some [.int .i64 (.ofNat t1), .int .i64 (.ofNat t2), .int .i64 (.ofNat t3), .int .i64 (.ofNat t4), .ps t5 t6] := by rw [List.getElem?_map, hj]; rfl
  simp only [] at hge
  have hmod : N / 256 ^ i % 256 < 256 := Nat.mod_lt _ (by omega)
  rcases Nat.lt_or_ge i X with hlt | hge2
  · by_cases h1 : N / 256 ^ i % 256 = 32 ∨ N / 256 ^ i % 256 = 9
    · rw [g_blank (by omega) h1, Nat.sub_sub, div_pow_one] at hres
      obtain ⟨_, _, hr2, hge2⟩ := g_head hres
      rw [hr] at hr2
      cases hr2
      simp only [] at hge2
      repeat' (first | ((conv => lhs; whnf); first | ((conv => lhs; arg 1; whnf); refine valK_ok ?_) | refine forceB_ok ?_ | refine forceN_add ?_ | refine forceN_sub ?_ | refine forceN_suc ?_ | refine forceN_part ?_ | refine forceN_byte ?_ | refine forceN_ok ?_ | refine forceZ_add ?_ | refine forceZ_mul (by (try simp only [maxK]); omega) ?_ | refine forceZ_sub ?_ | refine forceZ_ok ?_ | refine rowAt_ok (byteRows_get (by (try simp only [maxK]); omega)) ?_ | (apply rowAt_ok; (focus assumption)) | refine br_true (Nat.beq_refl _) ?_ | refine br_true (by assumption) ?_ | refine br_false (by assumption) ?_ | refine br_max (by (try simp only [maxK]); omega) ?_ | refine br_ble_t (by (try simp only [maxK]); omega) ?_ | refine br_ble_f (by (try simp only [maxK]); omega) ?_ | refine br_beq_f (by (try simp only [maxK]); omega) ?_ | refine br_true (by simp only [Bool.and_eq_true, Nat.ble_eq]; (try simp only []); omega) ?_ | (refine br_ble (fun h => ?_) (fun h => ?_) <;> (try simp only [] at h)) | (refine br_beq (fun h => ?_) (fun h => ?_) <;> (try simp only [] at h)) | refine br_split (fun h => ?_) (fun h => ?_) | fail) | ((conv => lhs; whnf); first | refine acc4_upd_ok (by omega) ?_ | refine acc4_get_same (by omega) ?_ | refine acc4_get_other (by omega) (by omega) (by omega) ?_ | refine acc4_get_ok (by omega) (by assumption) ?_ | refine opt3_split (fun h => ?_) (fun kind num tl h => ?_) | refine int_split (fun a h => ?_) (fun a h => ?_) | fail))
      all_goals (try (conv => lhs; whnf))
      all_goals first
      | exact hk _ _ _ _ (by omega) ⟨i + 1, j, line, col + 1, rfl, by omega, by omega, by omega, hres, by omega, rfl, rfl, rfl, rfl, rfl, rfl, rfl⟩
      | (exfalso; omega)
    by_cases h2 : N / 256 ^ i % 256 = 10
    · rw [g_line (by omega) h2, Nat.sub_sub, div_pow_one] at hres
      obtain ⟨_, _, hr2, hge2⟩ := g_head hres
      rw [hr] at hr2
      cases hr2
      simp only [] at hge2
      repeat' (first | ((conv => lhs; whnf); first | ((conv => lhs; arg 1; whnf); refine valK_ok ?_) | refine forceB_ok ?_ | refine forceN_add ?_ | refine forceN_sub ?_ | refine forceN_suc ?_ | refine forceN_part ?_ | refine forceN_byte ?_ | refine forceN_ok ?_ | refine forceZ_add ?_ | refine forceZ_mul (by (try simp only [maxK]); omega) ?_ | refine forceZ_sub ?_ | refine forceZ_ok ?_ | refine rowAt_ok (byteRows_get (by (try simp only [maxK]); omega)) ?_ | (apply rowAt_ok; (focus assumption)) | refine br_true (Nat.beq_refl _) ?_ | refine br_true (by assumption) ?_ | refine br_false (by assumption) ?_ | refine br_max (by (try simp only [maxK]); omega) ?_ | refine br_ble_t (by (try simp only [maxK]); omega) ?_ | refine br_ble_f (by (try simp only [maxK]); omega) ?_ | refine br_beq_f (by (try simp only [maxK]); omega) ?_ | refine br_true (by simp only [Bool.and_eq_true, Nat.ble_eq]; (try simp only []); omega) ?_ | (refine br_ble (fun h => ?_) (fun h => ?_) <;> (try simp only [] at h)) | (refine br_beq (fun h => ?_) (fun h => ?_) <;> (try simp only [] at h)) | refine br_split (fun h => ?_) (fun h => ?_) | fail) | ((conv => lhs; whnf); first | refine acc4_upd_ok (by omega) ?_ | refine acc4_get_same (by omega) ?_ | refine acc4_get_other (by omega) (by omega) (by omega) ?_ | refine acc4_get_ok (by omega) (by assumption) ?_ | refine opt3_split (fun h => ?_) (fun kind num tl h => ?_) | refine int_split (fun a h => ?_) (fun a h => ?_) | fail))
      all_goals (try (conv => lhs; whnf))
      all_goals first
      | exact hk _ _ _ _ (by omega) ⟨i + 1, j, line + 1, 1, rfl, by omega, by omega, by omega, hres, by omega, rfl, rfl, rfl, rfl, rfl, rfl, rfl⟩
      | (exfalso; omega)
    by_cases h3 : N / 256 ^ i % 256 = 35
    · have hrp : 0 < runP lineB (X - i) (N / 256 ^ i) := runP_pos (by omega) (by rw [h3]; rfl)
      rw [g_rem (by omega) h3, div_pow_add] at hres
      obtain ⟨_, _, hr2, hge2⟩ := g_head hres
      rw [hr] at hr2
      cases hr2
      simp only [] at hge2
      repeat' (first | ((conv => lhs; whnf); first | ((conv => lhs; arg 1; whnf); refine valK_ok ?_) | refine forceB_ok ?_ | refine forceN_add ?_ | refine forceN_sub ?_ | refine forceN_suc ?_ | refine forceN_part ?_ | refine forceN_byte ?_ | refine forceN_ok ?_ | refine forceZ_add ?_ | refine forceZ_mul (by (try simp only [maxK]); omega) ?_ | refine forceZ_sub ?_ | refine forceZ_ok ?_ | refine rowAt_ok (byteRows_get (by (try simp only [maxK]); omega)) ?_ | (apply rowAt_ok; (focus assumption)) | refine br_true (Nat.beq_refl _) ?_ | refine br_true (by assumption) ?_ | refine br_false (by assumption) ?_ | refine br_max (by (try simp only [maxK]); omega) ?_ | refine br_ble_t (by (try simp only [maxK]); omega) ?_ | refine br_ble_f (by (try simp only [maxK]); omega) ?_ | refine br_beq_f (by (try simp only [maxK]); omega) ?_ | refine br_true (by simp only [Bool.and_eq_true, Nat.ble_eq]; (try simp only []); omega) ?_ | (refine br_ble (fun h => ?_) (fun h => ?_) <;> (try simp only [] at h)) | (refine br_beq (fun h => ?_) (fun h => ?_) <;> (try simp only [] at h)) | refine br_split (fun h => ?_) (fun h => ?_) | fail) | ((conv => lhs; whnf); first | refine acc4_upd_ok (by omega) ?_ | refine acc4_get_same (by omega) ?_ | refine acc4_get_other (by omega) (by omega) (by omega) ?_ | refine acc4_get_ok (by omega) (by assumption) ?_ | refine opt3_split (fun h => ?_) (fun kind num tl h => ?_) | refine int_split (fun a h => ?_) (fun a h => ?_) | fail))
      all_goals (try (conv => lhs; whnf))
      all_goals try (exfalso; omega)
      all_goals (
        refine loop_ok (fun m tm hp' nx' => ∃ K c, m = X - K ∧ i ≤ K ∧ K < X ∧ c + i = col + K ∧ lineB (N / 256 ^ K % 256) = true ∧ K + runP lineB (X - K) (N / 256 ^ K) = i + runP lineB (X - i) (N / 256 ^ i) ∧ hp' = hp2 ∧ nx' = nx ∧
          get2 tm 5 = .ps X N ∧ get2 tm 6 = .ro 5 (l.map Tok.row) ∧ get2 tm 10 = .int .i64 (.ofNat line) ∧ get2 tm 11 = .int .i64 (.ofNat c) ∧ get2 tm 12 = .int .i64 (.ofNat K) ∧ get2 tm 13 = .int .i64 (.ofNat j) ∧ get2 tm 255 = .un) (m := X - i) (by omega)
          ⟨i, col, rfl, by omega, hlt, rfl, by rw [h3]; rfl, rfl, rfl, rfl, rfl, rfl, rfl, rfl, rfl, rfl, rfl⟩ ?_
        rintro m tm hp' nx' ⟨K, c, rfl, hiK, hKX, hc, hbK, hE, ehp, enx, e5, e6, e10, e11, e12, e13, e255⟩ k2 hk2
        subst ehp enx
        (obtain ⟨y0, y1, y2, y3, y4, y5, y6, y7, y8, y9, y10, y11, y12, y13, y14, y15⟩ := tm; obtain ⟨x0, x1, x2, x3, x4, x5, x6, x7, x8, x9, x10, x11, x12, x13, x14, x15⟩ := y0; obtain ⟨x16, x17, x18, x19, x20, x21, x22, x23, x24, x25, x26, x27, x28, x29, x30, x31⟩ := y1; obtain ⟨x32, x33, x34, x35, x36, x37, x38, x39, x40, x41, x42, x43, x44, x45, x46, x47⟩ := y2; obtain ⟨x48, x49, x50, x51, x52, x53, x54, x55, x56, x57, x58, x59, x60, x61, x62, x63⟩ := y3; obtain ⟨x64, x65, x66, x67, x68, x69, x70, x71, x72, x73, x74, x75, x76, x77, x78, x79⟩ := y4; obtain ⟨x80, x81, x82, x83, x84, x85, x86, x87, x88, x89, x90, x91, x92, x93, x94, x95⟩ := y5; obtain ⟨x96, x97, x98, x99, x100, x101, x102, x103, x104, x105, x106, x107, x108, x109, x110, x111⟩ := y6; obtain ⟨x112, x113, x114, x115, x116, x117, x118, x119, x120, x121, x122, x123, x124, x125, x126, x127⟩ := y7; obtain ⟨x128, x129, x130, x131, x132, x133, x134, x135, x136, x137, x138, x139, x140, x141, x142, x143⟩ := y8; obtain ⟨x240, x241, x242, x243, x244, x245, x246, x247, x248, x249, x250, x251, x252, x253, x254, x255⟩ := y15)
        cases e5
        cases e6
        cases e10
        cases e11
        cases e12
        cases e13
        cases e255
        have hst := @runP_step lineB K X N hKX
        rw [hbK] at hst
        simp only [] at hst
        have hst2 := fun h => @runP_step lineB (K + 1) X N h
        repeat' ((conv => lhs; whnf); first | ((conv => lhs; arg 1; whnf); refine valK_ok ?_) | refine forceB_ok ?_ | refine forceN_add ?_ | refine forceN_sub ?_ | refine forceN_suc ?_ | refine forceN_part ?_ | refine forceN_byte ?_ | refine forceN_ok ?_ | refine forceZ_add ?_ | refine forceZ_mul (by (try simp only [maxK]); omega) ?_ | refine forceZ_sub ?_ | refine forceZ_ok ?_ | refine rowAt_ok (byteRows_get (by (try simp only [maxK]); omega)) ?_ | (apply rowAt_ok; (focus assumption)) | refine br_true (Nat.beq_refl _) ?_ | refine br_true (by assumption) ?_ | refine br_false (by assumption) ?_ | refine br_max (by (try simp only [maxK]); omega) ?_ | refine br_ble_t (by (try simp only [maxK]); omega) ?_ | refine br_ble_f (by (try simp only [maxK]); omega) ?_ | refine br_beq_f (by (try simp only [maxK]); omega) ?_ | refine br_true (by simp only [Bool.and_eq_true, Nat.ble_eq]; (try simp only []); omega) ?_ | (refine br_ble (fun h => ?_) (fun h => ?_) <;> (try simp only [] at h)) | (refine br_beq (fun h => ?_) (fun h => ?_) <;> (try simp only [] at h)) | refine br_split (fun h => ?_) (fun h => ?_) | fail)
        all_goals (try (conv => lhs; whnf))
        all_goals first
        | (have h10 := ‹N / 256 ^ (K + 1) % 256 ≠ 10›
           exact hk2 _ _ _ _ (by omega) ⟨K + 1, c + 1, rfl, by omega, by omega, by omega, by rw [lineB, beq_false_iff.mpr h10]; rfl, by omega, rfl, rfl, rfl, rfl, rfl, rfl, rfl, rfl, rfl⟩)
        | (have hKe : i + runP lineB (X - i) (N / 256 ^ i) = K + 1 := by
             rcases Nat.lt_or_ge (K + 1) X with g | g
             · have := hst2 g
               rw [show lineB (N / 256 ^ (K + 1) % 256) = false by first | (rw [‹N / 256 ^ (K + 1) % 256 = 10›]; rfl) | omega] at this
               simp only [] at this
               omega
             · rw [show X - (K + 1) = 0 by omega] at hst
               simp only [runP] at hst
               omega
           rw [Nat.sub_sub, hKe, show col + runP lineB (X - i) (N / 256 ^ i) = c + 1 by omega] at hres
           exact hk _ _ _ _ (by omega) ⟨K + 1, j, line, c + 1, rfl, by omega, by omega, by omega, hres, by omega, rfl, rfl, rfl, rfl, rfl, rfl, rfl⟩))
    have hb : N / 256 ^ i % 256 ≠ 32 ∧ N / 256 ^ i % 256 ≠ 9 ∧ N / 256 ^ i % 256 ≠ 10 ∧ N / 256 ^ i % 256 ≠ 35 := ⟨by omega, by omega, h2, h3⟩
    cases ht : tokM (X - i) (N / 256 ^ i) with
    | none => rw [g_bad hb ht] at hres; cases hres
    | some t =>
      obtain ⟨kind, num, tl⟩ := t
      obtain ⟨e1, e2⟩ := tokM_facts ht
      rw [g_more hb ht (by omega), div_pow_add] at hres
      obtain ⟨r2, hres2, hr2⟩ := pre_ok hres
      rw [hr] at hr2
      injection hr2 with hr3 hr4
      injection hr3 with g1 g2 g3 g4 g5 g6
      subst g1 g2 g3 g4 g5 g6
      repeat' (first | ((conv => lhs; whnf); first | ((conv => lhs; arg 1; whnf); refine valK_ok ?_) | refine forceB_ok ?_ | refine forceN_add ?_ | refine forceN_sub ?_ | refine forceN_suc ?_ | refine forceN_part ?_ | refine forceN_byte ?_ | refine forceN_ok ?_ | refine forceZ_add ?_ | refine forceZ_mul (by (try simp only [maxK]); omega) ?_ | refine forceZ_sub ?_ | refine forceZ_ok ?_ | refine rowAt_ok (byteRows_get (by (try simp only [maxK]); omega)) ?_ | (apply rowAt_ok; (focus assumption)) | refine br_true (Nat.beq_refl _) ?_ | refine br_true (by assumption) ?_ | refine br_false (by assumption) ?_ | refine br_max (by (try simp only [maxK]); omega) ?_ | refine br_ble_t (by (try simp only [maxK]); omega) ?_ | refine br_ble_f (by (try simp only [maxK]); omega) ?_ | refine br_beq_f (by (try simp only [maxK]); omega) ?_ | refine br_true (by simp only [Bool.and_eq_true, Nat.ble_eq]; (try simp only []); omega) ?_ | (refine br_ble (fun h => ?_) (fun h => ?_) <;> (try simp only [] at h)) | (refine br_beq (fun h => ?_) (fun h => ?_) <;> (try simp only [] at h)) | refine br_split (fun h => ?_) (fun h => ?_) | fail) | ((conv => lhs; whnf); first | refine acc4_upd_ok (by omega) ?_ | refine acc4_get_same (by omega) ?_ | refine acc4_get_other (by omega) (by omega) (by omega) ?_ | refine acc4_get_ok (by omega) (by assumption) ?_ | refine opt3_split (fun h => ?_) (fun kind num tl h => ?_) | refine int_split (fun a h => ?_) (fun a h => ?_) | fail))
      all_goals (try (conv => lhs; whnf))
      all_goals first
      | (exfalso
         first
         | omega
         | (have h9 := ‹N / 256 ^ i % 256 ^ (i + t5 - i) ≠ N / 256 ^ i % 256 ^ t5›
            rw [Nat.add_sub_cancel_left] at h9
            exact h9 rfl))
      | (rw [Nat.sub_sub] at hres2
         exact hk _ _ _ _ (by omega) ⟨i + t5, j + 1, t3, t4 + t5, rfl, by omega, by omega, by omega, hres2.trans (by rw [hjr, hr4]; rfl), by omega, rfl, rfl, rfl, rfl, rfl, rfl, rfl⟩)
  · obtain rfl : i = X := by omega
    rw [Nat.sub_self, g_end, hr] at hres
    injection hres with hres
    injection hres with hr3 hr4
    injection hr3 with g1 g2 g3 g4 g5 g6
    subst g1 g2 g3 g4 g5 g6 hr4
    have hjn2 : l.length = j + 1 := hjn
    repeat' (first | ((conv => lhs; whnf); first | ((conv => lhs; arg 1; whnf); refine valK_ok ?_) | refine forceB_ok ?_ | refine forceN_add ?_ | refine forceN_sub ?_ | refine forceN_suc ?_ | refine forceN_part ?_ | refine forceN_byte ?_ | refine forceN_ok ?_ | refine forceZ_add ?_ | refine forceZ_mul (by (try simp only [maxK]); omega) ?_ | refine forceZ_sub ?_ | refine forceZ_ok ?_ | refine rowAt_ok (byteRows_get (by (try simp only [maxK]); omega)) ?_ | (apply rowAt_ok; (focus assumption)) | refine br_true (Nat.beq_refl _) ?_ | refine br_true (by assumption) ?_ | refine br_false (by assumption) ?_ | refine br_max (by (try simp only [maxK]); omega) ?_ | refine br_ble_t (by (try simp only [maxK]); omega) ?_ | refine br_ble_f (by (try simp only [maxK]); omega) ?_ | refine br_beq_f (by (try simp only [maxK]); omega) ?_ | refine br_true (by simp only [Bool.and_eq_true, Nat.ble_eq]; (try simp only []); omega) ?_ | (refine br_ble (fun h => ?_) (fun h => ?_) <;> (try simp only [] at h)) | (refine br_beq (fun h => ?_) (fun h => ?_) <;> (try simp only [] at h)) | refine br_split (fun h => ?_) (fun h => ?_) | fail) | ((conv => lhs; whnf); first | refine acc4_upd_ok (by omega) ?_ | refine acc4_get_same (by omega) ?_ | refine acc4_get_other (by omega) (by omega) (by omega) ?_ | refine acc4_get_ok (by omega) (by assumption) ?_ | refine opt3_split (fun h => ?_) (fun kind num tl h => ?_) | refine int_split (fun a h => ?_) (fun a h => ?_) | fail))
    all_goals (try (conv => lhs; whnf))
    all_goals first
    | exact okIf_ok (frz_bool rfl)
    | (exfalso; omega)

end Go.Proofs.YtjljgldgkkfckaaDoor.M
