/- LexForms, up to nine digits, part 2. -/
import Derived.Test.YtjljgldgkkfckaaDoorMLex14
namespace Go.Proofs.YtjljgldgkkfckaaDoor.M
open Go
set_option linter.unusedSimpArgs false
set_option linter.unusedVariables false
variable {ρ : Nat → Value}

attribute [local irreducible] forceN forceZ forceB okIf roundsK valK rowAt
attribute [local irreducible] askP toksF aggsK G wordM withinN
attribute [local irreducible] acc4 get4 put4
set_option maxRecDepth 100000

set_option maxHeartbeats 8000000 in
theorem lexForms_lo_blank (z : Int) (c : Nat) (hc : c < 256) (hs9 : withinN z 14 + 1 ≤ 9) (hcl : c = 32 ∨ c = 9 ∨ c = 10) : Says ρ Tryd.prog 6 [.int .i64 z, .int .u8 (.ofNat c)] (.bool true) := by
  have hw := withinN_lt z (b := 14) (by omega) (by omega)
  refine says_run (call := over 14 ovWithin (over 15 ovWord (over 10 ovToks (over 13 ovWakes call0)))) follows globL_ok (over_ok ovWithin_ok (over_ok ovWord_ok (over_ok (ovToks_ok tokens_says) (over_ok ovWakes_ok call0_ok)))) (arg2 rfl rfl) ?_
  generalize hk : withinN z 14 = k0 at hw hs9
  repeat' (first | (first | ((conv => lhs; whnf); first | ((conv => lhs; arg 1; whnf); refine valK_ok ?_) | refine forceB_ok ?_ | refine forceN_add ?_ | refine forceN_sub ?_ | refine forceN_suc ?_ | refine forceN_part ?_ | refine forceN_byte ?_ | refine forceN_ok ?_ | refine forceZ_add ?_ | refine forceZ_mul (by (try simp only [maxK]); omega) ?_ | refine forceZ_sub ?_ | refine forceZ_ok ?_ | refine rowAt_ok (byteRows_get (by (try simp only [maxK]); omega)) ?_ | (apply rowAt_ok; (focus assumption)) | refine br_true (Nat.beq_refl _) ?_ | refine br_true (by assumption) ?_ | refine br_false (by assumption) ?_ | refine br_max (by (try simp only [maxK]); omega) ?_ | refine br_ble_t (by (try simp only [maxK]); omega) ?_ | refine br_ble_f (by (try simp only [maxK]); omega) ?_ | refine br_beq_f (by (try simp only [maxK]); omega) ?_ | refine br_true (by simp only [Bool.and_eq_true, Nat.ble_eq]; (try simp only []); omega) ?_ | (refine br_ble (fun h => ?_) (fun h => ?_) <;> (try simp only [] at h)) | (refine br_beq (fun h => ?_) (fun h => ?_) <;> (try simp only [] at h)) | refine br_split (fun h => ?_) (fun h => ?_) | fail) | ((conv => lhs; whnf); first | refine acc4_upd_ok (by omega) ?_ | refine acc4_get_same (by omega) ?_ | refine acc4_get_other (by omega) (by omega) (by omega) ?_ | refine acc4_get_ok (by omega) (by assumption) ?_ | refine opt3_split (fun h => ?_) (fun kind num tl h => ?_) | refine int_split (fun a h => ?_) (fun a h => ?_) | fail)) | ((conv => lhs; whnf); first | (apply lex_ok; (focus assumption)) | (apply lex_bad; (focus assumption)) | refine lex_split (fun l h => ?_) (fun a b h => ?_) | refine askP_ok (.inl ⟨_, Nat.le_trans (toksF_le _ _ _ _ _ _ ‹toksF _ _ _ _ _ = LexR.ok _›) (by first | omega | exact Nat.le_trans (Nat.succ_le_succ (Nat.min_le_right _ _)) (by decide)), rfl⟩) ?_ | refine askP_ok (.inr rfl) ?_ | fail))
  all_goals (try (conv => lhs; whnf))
  rw [hk]
  obtain ⟨n1, hn1, hlo, hhi⟩ : ∃ n1, k0 + 1 = n1 ∧ 1 ≤ n1 ∧ n1 ≤ 14 := ⟨k0 + 1, rfl, by omega, by omega⟩
  rw [hn1]
  rw [hn1] at hs9
  clear hn1 hk hw
  obtain ⟨w1, w2, w3⟩ := word_facts n1 (by omega) (by omega)
  obtain ⟨m1, m2, m3⟩ := num_facts n1 (by omega) (by omega)
  obtain ⟨b1, b2, b3, b4, b5⟩ := byte_facts c hc
  have hT := isLenB_ok (b2 (by unfold plainP; omega) hcl)
  obtain ⟨lt, hT, hTl⟩ := hT
  rw [← toks3] at hT
  obtain ⟨T3, hT3⟩ : ∃ T3, Nat.add (packL ({ data := #[97] } : ByteArray).data.toList + (c + Nat.mul 256 Nat.zero).mul (Nat.pow 256 ({ data := #[97] } : ByteArray).size)) ((packL ({ data := #[98] } : ByteArray).data.toList).mul (Nat.pow 256 (({ data := #[97] } : ByteArray).size + 1))) = T3 := ⟨_, rfl⟩
  rw [show packL ({ data := #[97] } : ByteArray).data.toList + (c + Nat.mul 256 Nat.zero).mul (Nat.pow 256 ({ data := #[97] } : ByteArray).size) + (packL ({ data := #[98] } : ByteArray).data.toList).mul (Nat.pow 256 (({ data := #[97] } : ByteArray).size + 1)) = T3 from hT3] at hT
  clear b1 b2 b3 b4
  have hs113 : ({ data := #[113] } : ByteArray).size = 1 := rfl
  have hs55 : ({ data := #[55] } : ByteArray).size = 1 := rfl
  have hs120 : ({ data := #[120] } : ByteArray).size = 1 := rfl
  have hs49 : ({ data := #[49] } : ByteArray).size = 1 := rfl
  have hs32 : ({ data := #[32] } : ByteArray).size = 1 := rfl
  have hs48 : ({ data := #[48] } : ByteArray).size = 1 := rfl
  have hs97 : ({ data := #[97] } : ByteArray).size = 1 := rfl
  have hs98 : ({ data := #[98] } : ByteArray).size = 1 := rfl
  have hs81 : ({ data := #[81] } : ByteArray).size = 1 := rfl
  have hsK : ({ data := #[95, 48, 49, 50, 51, 52, 53, 54, 55, 56, 57, 97, 98, 99, 100, 101, 102, 103, 104] } : ByteArray).size = 19 := rfl
  have w4 : wordM ({ data := #[] } : ByteArray).size (packL ({ data := #[] } : ByteArray).data.toList) = false := word_nil
  have w5 : wordM ({ data := #[81] } : ByteArray).size (packL ({ data := #[81] } : ByteArray).data.toList) = false := word_Q
  replace m3 := isBad_ok m3
  refine loop_ok (fun m tm hp nx => ∃ i, m = n1 - i ∧ i ≤ n1 ∧ nx ≤ 10 ∧ get2 tm 0 = .int .i64 (.ofNat (n1)) ∧ get2 tm 1 = .int .u8 (.ofNat c) ∧ get2 tm 5 = .ps i (repB 113 i) ∧ get2 tm 6 = .ps i (repB 55 i) ∧ get2 tm 7 = .int .i64 (.ofNat i) ∧ get2 tm 255 = .un) (m := n1) (by omega)
    ⟨0, rfl, by omega, by omega, rfl, rfl, rfl, rfl, rfl, rfl⟩ ?_
  rintro m tm hp nx ⟨i, rfl, hi, hnx, e0, e1, e5, e6, e7, e255⟩ k hk
  (obtain ⟨y0, y1, y2, y3, y4, y5, y6, y7, y8, y9, y10, y11, y12, y13, y14, y15⟩ := tm; obtain ⟨x0, x1, x2, x3, x4, x5, x6, x7, x8, x9, x10, x11, x12, x13, x14, x15⟩ := y0; obtain ⟨x16, x17, x18, x19, x20, x21, x22, x23, x24, x25, x26, x27, x28, x29, x30, x31⟩ := y1; obtain ⟨x32, x33, x34, x35, x36, x37, x38, x39, x40, x41, x42, x43, x44, x45, x46, x47⟩ := y2; obtain ⟨x48, x49, x50, x51, x52, x53, x54, x55, x56, x57, x58, x59, x60, x61, x62, x63⟩ := y3; obtain ⟨x64, x65, x66, x67, x68, x69, x70, x71, x72, x73, x74, x75, x76, x77, x78, x79⟩ := y4; obtain ⟨x80, x81, x82, x83, x84, x85, x86, x87, x88, x89, x90, x91, x92, x93, x94, x95⟩ := y5; obtain ⟨x96, x97, x98, x99, x100, x101, x102, x103, x104, x105, x106, x107, x108, x109, x110, x111⟩ := y6; obtain ⟨x112, x113, x114, x115, x116, x117, x118, x119, x120, x121, x122, x123, x124, x125, x126, x127⟩ := y7; obtain ⟨x128, x129, x130, x131, x132, x133, x134, x135, x136, x137, x138, x139, x140, x141, x142, x143⟩ := y8; obtain ⟨x144, x145, x146, x147, x148, x149, x150, x151, x152, x153, x154, x155, x156, x157, x158, x159⟩ := y9; obtain ⟨x160, x161, x162, x163, x164, x165, x166, x167, x168, x169, x170, x171, x172, x173, x174, x175⟩ := y10; obtain ⟨x176, x177, x178, x179, x180, x181, x182, x183, x184, x185, x186, x187, x188, x189, x190, x191⟩ := y11; obtain ⟨x192, x193, x194, x195, x196, x197, x198, x199, x200, x201, x202, x203, x204, x205, x206, x207⟩ := y12; obtain ⟨x208, x209, x210, x211, x212, x213, x214, x215, x216, x217, x218, x219, x220, x221, x222, x223⟩ := y13; obtain ⟨x224, x225, x226, x227, x228, x229, x230, x231, x232, x233, x234, x235, x236, x237, x238, x239⟩ := y14; obtain ⟨x240, x241, x242, x243, x244, x245, x246, x247, x248, x249, x250, x251, x252, x253, x254, x255⟩ := y15)
  cases e0
  cases e1
  cases e5
  cases e6
  cases e7
  cases e255
  rcases Nat.lt_or_ge i (n1) with hlt | hge
  · clear hT b5
    repeat' ((conv => lhs; whnf); first | ((conv => lhs; arg 1; whnf); refine valK_ok ?_) | refine forceB_ok ?_ | refine forceN_add ?_ | refine forceN_sub ?_ | refine forceN_suc ?_ | refine forceN_part ?_ | refine forceN_byte ?_ | refine forceN_ok ?_ | refine forceZ_add ?_ | refine forceZ_mul (by (try simp only [maxK]); omega) ?_ | refine forceZ_sub ?_ | refine forceZ_ok ?_ | refine rowAt_ok (byteRows_get (by (try simp only [maxK]); omega)) ?_ | (apply rowAt_ok; (focus assumption)) | refine br_true (Nat.beq_refl _) ?_ | refine br_true (by assumption) ?_ | refine br_false (by assumption) ?_ | refine br_max (by (try simp only [maxK]); omega) ?_ | refine br_ble_t (by (try simp only [maxK]); omega) ?_ | refine br_ble_f (by (try simp only [maxK]); omega) ?_ | refine br_beq_f (by (try simp only [maxK]); omega) ?_ | refine br_true (by simp only [Bool.and_eq_true, Nat.ble_eq]; (try simp only []); omega) ?_ | (refine br_ble (fun h => ?_) (fun h => ?_) <;> (try simp only [] at h)) | (refine br_beq (fun h => ?_) (fun h => ?_) <;> (try simp only [] at h)) | refine br_split (fun h => ?_) (fun h => ?_) | fail)
    all_goals (try (conv => lhs; whnf))
    all_goals first
    | exact hk _ _ _ _ (by omega) ⟨i + 1, rfl, by omega, by omega, rfl, rfl, rfl, rfl, rfl, rfl⟩
    | (exfalso; have h9 : 9223372036854775807 < i + 1 := h; omega)
  obtain rfl : n1 = i := by omega
  clear hk hge hi
  obtain ⟨l1, m4⟩ := isAny_ok (m1 hs9)
  clear m1 m2
  obtain ⟨d, hd, hd1⟩ : ∃ d, 16 - n1 + 1 = d ∧ d = 16 - n1 + 1 := ⟨_, rfl, rfl⟩
  rw [hd] at w1 w2
  have hdN : Nat.add (16 - n1) 1 = d := hd
  repeat' (first | ((conv => lhs; whnf); refine forceN_as d hdN ?_) | ((conv => lhs; whnf); refine forceN_as T3 hT3 ?_) | (first | (first | ((conv => lhs; whnf); first | ((conv => lhs; arg 1; whnf); refine valK_ok ?_) | refine forceB_ok ?_ | refine forceN_add ?_ | refine forceN_sub ?_ | refine forceN_suc ?_ | refine forceN_part ?_ | refine forceN_byte ?_ | refine forceN_ok ?_ | refine forceZ_add ?_ | refine forceZ_mul (by (try simp only [maxK]); omega) ?_ | refine forceZ_sub ?_ | refine forceZ_ok ?_ | refine rowAt_ok (byteRows_get (by (try simp only [maxK]); omega)) ?_ | (apply rowAt_ok; (focus assumption)) | refine br_true (Nat.beq_refl _) ?_ | refine br_true (by assumption) ?_ | refine br_false (by assumption) ?_ | refine br_max (by (try simp only [maxK]); omega) ?_ | refine br_ble_t (by (try simp only [maxK]); omega) ?_ | refine br_ble_f (by (try simp only [maxK]); omega) ?_ | refine br_beq_f (by (try simp only [maxK]); omega) ?_ | refine br_true (by simp only [Bool.and_eq_true, Nat.ble_eq]; (try simp only []); omega) ?_ | (refine br_ble (fun h => ?_) (fun h => ?_) <;> (try simp only [] at h)) | (refine br_beq (fun h => ?_) (fun h => ?_) <;> (try simp only [] at h)) | refine br_split (fun h => ?_) (fun h => ?_) | fail) | ((conv => lhs; whnf); first | refine acc4_upd_ok (by omega) ?_ | refine acc4_get_same (by omega) ?_ | refine acc4_get_other (by omega) (by omega) (by omega) ?_ | refine acc4_get_ok (by omega) (by assumption) ?_ | refine opt3_split (fun h => ?_) (fun kind num tl h => ?_) | refine int_split (fun a h => ?_) (fun a h => ?_) | fail)) | ((conv => lhs; whnf); first | (apply lex_ok; (focus assumption)) | (apply lex_bad; (focus assumption)) | refine lex_split (fun l h => ?_) (fun a b h => ?_) | refine askP_ok (.inl ⟨_, Nat.le_trans (toksF_le _ _ _ _ _ _ ‹toksF _ _ _ _ _ = LexR.ok _›) (by first | omega | exact Nat.le_trans (Nat.succ_le_succ (Nat.min_le_right _ _)) (by decide)), rfl⟩) ?_ | refine askP_ok (.inr rfl) ?_ | fail)))
  all_goals (try (conv => lhs; whnf))
  all_goals first | (exfalso; omega) | skip
  all_goals (
    refine loop_ok (fun m tm hp' nx' => ∃ i b, m = 18 - i ∧ i ≤ 18 ∧ nx' ≤ 40 ∧ (b || hasB (18 - i) (signsN / 256 ^ i) c) = signB c ∧ get2 tm 1 = .int .u8 (.ofNat c) ∧ get2 tm 17 = .ro 5 (lt.map Tok.row) ∧ get2 tm 20 = .int .i64 (.ofNat 0) ∧ get2 tm 21 = .bool false ∧ get2 tm 22 = .bool b ∧
      get2 tm 139 = .ro 1 (byteRows 18 signsN) ∧ get2 tm 140 = .int .i64 (.ofNat 18) ∧ get2 tm 141 = .int .i64 (.ofNat i) ∧ get2 tm 255 = .un) (m := 18) (by omega)
      ⟨0, false, rfl, by omega, by omega, b5, rfl, rfl, rfl, rfl, rfl, signRows, rfl, rfl, rfl⟩ ?_
    rintro m tm hp' nx' ⟨i, b, rfl, hi, hnx', hb, e1, e17, e20, e21, e22, e139, e140, e141, e255⟩ k hk
    (obtain ⟨y0, y1, y2, y3, y4, y5, y6, y7, y8, y9, y10, y11, y12, y13, y14, y15⟩ := tm; obtain ⟨x0, x1, x2, x3, x4, x5, x6, x7, x8, x9, x10, x11, x12, x13, x14, x15⟩ := y0; obtain ⟨x16, x17, x18, x19, x20, x21, x22, x23, x24, x25, x26, x27, x28, x29, x30, x31⟩ := y1; obtain ⟨x32, x33, x34, x35, x36, x37, x38, x39, x40, x41, x42, x43, x44, x45, x46, x47⟩ := y2; obtain ⟨x48, x49, x50, x51, x52, x53, x54, x55, x56, x57, x58, x59, x60, x61, x62, x63⟩ := y3; obtain ⟨x64, x65, x66, x67, x68, x69, x70, x71, x72, x73, x74, x75, x76, x77, x78, x79⟩ := y4; obtain ⟨x80, x81, x82, x83, x84, x85, x86, x87, x88, x89, x90, x91, x92, x93, x94, x95⟩ := y5; obtain ⟨x96, x97, x98, x99, x100, x101, x102, x103, x104, x105, x106, x107, x108, x109, x110, x111⟩ := y6; obtain ⟨x112, x113, x114, x115, x116, x117, x118, x119, x120, x121, x122, x123, x124, x125, x126, x127⟩ := y7; obtain ⟨x128, x129, x130, x131, x132, x133, x134, x135, x136, x137, x138, x139, x140, x141, x142, x143⟩ := y8; obtain ⟨x144, x145, x146, x147, x148, x149, x150, x151, x152, x153, x154, x155, x156, x157, x158, x159⟩ := y9; obtain ⟨x160, x161, x162, x163, x164, x165, x166, x167, x168, x169, x170, x171, x172, x173, x174, x175⟩ := y10; obtain ⟨x176, x177, x178, x179, x180, x181, x182, x183, x184, x185, x186, x187, x188, x189, x190, x191⟩ := y11; obtain ⟨x192, x193, x194, x195, x196, x197, x198, x199, x200, x201, x202, x203, x204, x205, x206, x207⟩ := y12; obtain ⟨x208, x209, x210, x211, x212, x213, x214, x215, x216, x217, x218, x219, x220, x221, x222, x223⟩ := y13; obtain ⟨x224, x225, x226, x227, x228, x229, x230, x231, x232, x233, x234, x235, x236, x237, x238, x239⟩ := y14; obtain ⟨x240, x241, x242, x243, x244, x245, x246, x247, x248, x249, x250, x251, x252, x253, x254, x255⟩ := y15)
    cases e1
    cases e17
    cases e20
    cases e21
    cases e22
    cases e139
    cases e140
    cases e141
    cases e255
    have hbl := byteRows_length 18 signsN
    clear w1 w2 w3 w4 w5 m3 m4 b5
    rcases Nat.lt_or_ge i 18 with hlt | hge
    · rw [hasB_step hlt] at hb
      cases b with
      | true =>
        repeat' ((conv => lhs; whnf); first | ((conv => lhs; arg 1; whnf); refine valK_ok ?_) | refine forceB_ok ?_ | refine forceN_add ?_ | refine forceN_sub ?_ | refine forceN_suc ?_ | refine forceN_part ?_ | refine forceN_byte ?_ | refine forceN_ok ?_ | refine forceZ_add ?_ | refine forceZ_mul (by (try simp only [maxK]); omega) ?_ | refine forceZ_sub ?_ | refine forceZ_ok ?_ | refine rowAt_ok (byteRows_get (by (try simp only [maxK]); omega)) ?_ | (apply rowAt_ok; (focus assumption)) | refine br_true (Nat.beq_refl _) ?_ | refine br_true (by assumption) ?_ | refine br_false (by assumption) ?_ | refine br_max (by (try simp only [maxK]); omega) ?_ | refine br_ble_t (by (try simp only [maxK]); omega) ?_ | refine br_ble_f (by (try simp only [maxK]); omega) ?_ | refine br_beq_f (by (try simp only [maxK]); omega) ?_ | refine br_true (by simp only [Bool.and_eq_true, Nat.ble_eq]; (try simp only []); omega) ?_ | (refine br_ble (fun h => ?_) (fun h => ?_) <;> (try simp only [] at h)) | (refine br_beq (fun h => ?_) (fun h => ?_) <;> (try simp only [] at h)) | refine br_split (fun h => ?_) (fun h => ?_) | fail)
        all_goals (try (conv => lhs; whnf))
        exact hk _ _ _ _ (by omega) ⟨i + 1, true, rfl, by omega, by omega, by rw [Bool.true_or] at hb ⊢; exact hb, rfl, rfl, rfl, rfl, rfl, rfl, rfl, rfl, rfl⟩
      | false =>
        cases hbq : Nat.beq (signsN / 256 ^ i % 256) c with
        | true =>
          rw [hbq] at hb
          have hbe := Nat.eq_of_beq_eq_true hbq
          have hbq2 : Nat.beq c (signsN / 256 ^ i % 256) = true := by rw [hbe]; exact Nat.beq_refl _
          repeat' ((conv => lhs; whnf); first | ((conv => lhs; arg 1; whnf); refine valK_ok ?_) | refine forceB_ok ?_ | refine forceN_add ?_ | refine forceN_sub ?_ | refine forceN_suc ?_ | refine forceN_part ?_ | refine forceN_byte ?_ | refine forceN_ok ?_ | refine forceZ_add ?_ | refine forceZ_mul (by (try simp only [maxK]); omega) ?_ | refine forceZ_sub ?_ | refine forceZ_ok ?_ | refine rowAt_ok (byteRows_get (by (try simp only [maxK]); omega)) ?_ | (apply rowAt_ok; (focus assumption)) | refine br_true (Nat.beq_refl _) ?_ | refine br_true (by assumption) ?_ | refine br_false (by assumption) ?_ | refine br_max (by (try simp only [maxK]); omega) ?_ | refine br_ble_t (by (try simp only [maxK]); omega) ?_ | refine br_ble_f (by (try simp only [maxK]); omega) ?_ | refine br_beq_f (by (try simp only [maxK]); omega) ?_ | refine br_true (by simp only [Bool.and_eq_true, Nat.ble_eq]; (try simp only []); omega) ?_ | (refine br_ble (fun h => ?_) (fun h => ?_) <;> (try simp only [] at h)) | (refine br_beq (fun h => ?_) (fun h => ?_) <;> (try simp only [] at h)) | refine br_split (fun h => ?_) (fun h => ?_) | fail)
          all_goals (try (conv => lhs; whnf))
          exact hk _ _ _ _ (by omega) ⟨i + 1, true, rfl, by omega, by omega, by rw [Bool.true_or]; exact hb, rfl, rfl, rfl, rfl, rfl, rfl, rfl, rfl, rfl⟩
        | false =>
          rw [hbq] at hb
          have hbe := beq_false_iff.mp hbq
          have hbq2 : Nat.beq c (signsN / 256 ^ i % 256) = false := beq_false_iff.mpr (Ne.symm hbe)
          repeat' ((conv => lhs; whnf); first | ((conv => lhs; arg 1; whnf); refine valK_ok ?_) | refine forceB_ok ?_ | refine forceN_add ?_ | refine forceN_sub ?_ | refine forceN_suc ?_ | refine forceN_part ?_ | refine forceN_byte ?_ | refine forceN_ok ?_ | refine forceZ_add ?_ | refine forceZ_mul (by (try simp only [maxK]); omega) ?_ | refine forceZ_sub ?_ | refine forceZ_ok ?_ | refine rowAt_ok (byteRows_get (by (try simp only [maxK]); omega)) ?_ | (apply rowAt_ok; (focus assumption)) | refine br_true (Nat.beq_refl _) ?_ | refine br_true (by assumption) ?_ | refine br_false (by assumption) ?_ | refine br_max (by (try simp only [maxK]); omega) ?_ | refine br_ble_t (by (try simp only [maxK]); omega) ?_ | refine br_ble_f (by (try simp only [maxK]); omega) ?_ | refine br_beq_f (by (try simp only [maxK]); omega) ?_ | refine br_true (by simp only [Bool.and_eq_true, Nat.ble_eq]; (try simp only []); omega) ?_ | (refine br_ble (fun h => ?_) (fun h => ?_) <;> (try simp only [] at h)) | (refine br_beq (fun h => ?_) (fun h => ?_) <;> (try simp only [] at h)) | refine br_split (fun h => ?_) (fun h => ?_) | fail)
          all_goals (try (conv => lhs; whnf))
          exact hk _ _ _ _ (by omega) ⟨i + 1, false, rfl, by omega, by omega, hb, rfl, rfl, rfl, rfl, rfl, rfl, rfl, rfl, rfl⟩
    · obtain rfl : i = 18 := by omega
      rw [Nat.sub_self, show hasB 0 (signsN / 256 ^ 18) c = false from rfl, Bool.or_false] at hb
      subst hb
      have hTb : Nat.beq (lt.map Tok.row).length 3 = true := by rw [List.length_map, hTl]; rfl
      repeat' ((conv => lhs; whnf); first | ((conv => lhs; arg 1; whnf); refine valK_ok ?_) | refine forceB_ok ?_ | refine forceN_add ?_ | refine forceN_sub ?_ | refine forceN_suc ?_ | refine forceN_part ?_ | refine forceN_byte ?_ | refine forceN_ok ?_ | refine forceZ_add ?_ | refine forceZ_mul (by (try simp only [maxK]); omega) ?_ | refine forceZ_sub ?_ | refine forceZ_ok ?_ | refine rowAt_ok (byteRows_get (by (try simp only [maxK]); omega)) ?_ | (apply rowAt_ok; (focus assumption)) | refine br_true (Nat.beq_refl _) ?_ | refine br_true (by assumption) ?_ | refine br_false (by assumption) ?_ | refine br_max (by (try simp only [maxK]); omega) ?_ | refine br_ble_t (by (try simp only [maxK]); omega) ?_ | refine br_ble_f (by (try simp only [maxK]); omega) ?_ | refine br_beq_f (by (try simp only [maxK]); omega) ?_ | refine br_true (by simp only [Bool.and_eq_true, Nat.ble_eq]; (try simp only []); omega) ?_ | (refine br_ble (fun h => ?_) (fun h => ?_) <;> (try simp only [] at h)) | (refine br_beq (fun h => ?_) (fun h => ?_) <;> (try simp only [] at h)) | refine br_split (fun h => ?_) (fun h => ?_) | fail)
      all_goals (try (conv => lhs; whnf))
      all_goals first | exact okIf_ok (frz_bool rfl) | (exfalso; omega))

set_option maxHeartbeats 8000000 in
theorem lexForms_lo_sign_a (z : Int) (c : Nat) (hc : c < 256) (hs9 : withinN z 14 + 1 ≤ 9) (hcl : 123 ≤ c ∧ signB c = true) : Says ρ Tryd.prog 6 [.int .i64 z, .int .u8 (.ofNat c)] (.bool true) := by
  have hw := withinN_lt z (b := 14) (by omega) (by omega)
  refine says_run (call := over 14 ovWithin (over 15 ovWord (over 10 ovToks (over 13 ovWakes call0)))) follows globL_ok (over_ok ovWithin_ok (over_ok ovWord_ok (over_ok (ovToks_ok tokens_says) (over_ok ovWakes_ok call0_ok)))) (arg2 rfl rfl) ?_
  generalize hk : withinN z 14 = k0 at hw hs9
  repeat' (first | (first | ((conv => lhs; whnf); first | ((conv => lhs; arg 1; whnf); refine valK_ok ?_) | refine forceB_ok ?_ | refine forceN_add ?_ | refine forceN_sub ?_ | refine forceN_suc ?_ | refine forceN_part ?_ | refine forceN_byte ?_ | refine forceN_ok ?_ | refine forceZ_add ?_ | refine forceZ_mul (by (try simp only [maxK]); omega) ?_ | refine forceZ_sub ?_ | refine forceZ_ok ?_ | refine rowAt_ok (byteRows_get (by (try simp only [maxK]); omega)) ?_ | (apply rowAt_ok; (focus assumption)) | refine br_true (Nat.beq_refl _) ?_ | refine br_true (by assumption) ?_ | refine br_false (by assumption) ?_ | refine br_max (by (try simp only [maxK]); omega) ?_ | refine br_ble_t (by (try simp only [maxK]); omega) ?_ | refine br_ble_f (by (try simp only [maxK]); omega) ?_ | refine br_beq_f (by (try simp only [maxK]); omega) ?_ | refine br_true (by simp only [Bool.and_eq_true, Nat.ble_eq]; (try simp only []); omega) ?_ | (refine br_ble (fun h => ?_) (fun h => ?_) <;> (try simp only [] at h)) | (refine br_beq (fun h => ?_) (fun h => ?_) <;> (try simp only [] at h)) | refine br_split (fun h => ?_) (fun h => ?_) | fail) | ((conv => lhs; whnf); first | refine acc4_upd_ok (by omega) ?_ | refine acc4_get_same (by omega) ?_ | refine acc4_get_other (by omega) (by omega) (by omega) ?_ | refine acc4_get_ok (by omega) (by assumption) ?_ | refine opt3_split (fun h => ?_) (fun kind num tl h => ?_) | refine int_split (fun a h => ?_) (fun a h => ?_) | fail)) | ((conv => lhs; whnf); first | (apply lex_ok; (focus assumption)) | (apply lex_bad; (focus assumption)) | refine lex_split (fun l h => ?_) (fun a b h => ?_) | refine askP_ok (.inl ⟨_, Nat.le_trans (toksF_le _ _ _ _ _ _ ‹toksF _ _ _ _ _ = LexR.ok _›) (by first | omega | exact Nat.le_trans (Nat.succ_le_succ (Nat.min_le_right _ _)) (by decide)), rfl⟩) ?_ | refine askP_ok (.inr rfl) ?_ | fail))
  all_goals (try (conv => lhs; whnf))
  rw [hk]
  obtain ⟨n1, hn1, hlo, hhi⟩ : ∃ n1, k0 + 1 = n1 ∧ 1 ≤ n1 ∧ n1 ≤ 14 := ⟨k0 + 1, rfl, by omega, by omega⟩
  rw [hn1]
  rw [hn1] at hs9
  clear hn1 hk hw
  obtain ⟨w1, w2, w3⟩ := word_facts n1 (by omega) (by omega)
  obtain ⟨m1, m2, m3⟩ := num_facts n1 (by omega) (by omega)
  obtain ⟨b1, b2, b3, b4, b5⟩ := byte_facts c hc
  obtain ⟨c1, c3⟩ := hcl
  have hT := isLenB_ok (b3 (by unfold plainP; omega) (by omega) c3)
  obtain ⟨lt, hT, hTl⟩ := hT
  rw [← toks3] at hT
  obtain ⟨T3, hT3⟩ : ∃ T3, Nat.add (packL ({ data := #[97] } : ByteArray).data.toList + (c + Nat.mul 256 Nat.zero).mul (Nat.pow 256 ({ data := #[97] } : ByteArray).size)) ((packL ({ data := #[98] } : ByteArray).data.toList).mul (Nat.pow 256 (({ data := #[97] } : ByteArray).size + 1))) = T3 := ⟨_, rfl⟩
  rw [show packL ({ data := #[97] } : ByteArray).data.toList + (c + Nat.mul 256 Nat.zero).mul (Nat.pow 256 ({ data := #[97] } : ByteArray).size) + (packL ({ data := #[98] } : ByteArray).data.toList).mul (Nat.pow 256 (({ data := #[97] } : ByteArray).size + 1)) = T3 from hT3] at hT
  clear b1 b2 b3 b4
  have hs113 : ({ data := #[113] } : ByteArray).size = 1 := rfl
  have hs55 : ({ data := #[55] } : ByteArray).size = 1 := rfl
  have hs120 : ({ data := #[120] } : ByteArray).size = 1 := rfl
  have hs49 : ({ data := #[49] } : ByteArray).size = 1 := rfl
  have hs32 : ({ data := #[32] } : ByteArray).size = 1 := rfl
  have hs48 : ({ data := #[48] } : ByteArray).size = 1 := rfl
  have hs97 : ({ data := #[97] } : ByteArray).size = 1 := rfl
  have hs98 : ({ data := #[98] } : ByteArray).size = 1 := rfl
  have hs81 : ({ data := #[81] } : ByteArray).size = 1 := rfl
  have hsK : ({ data := #[95, 48, 49, 50, 51, 52, 53, 54, 55, 56, 57, 97, 98, 99, 100, 101, 102, 103, 104] } : ByteArray).size = 19 := rfl
  have w4 : wordM ({ data := #[] } : ByteArray).size (packL ({ data := #[] } : ByteArray).data.toList) = false := word_nil
  have w5 : wordM ({ data := #[81] } : ByteArray).size (packL ({ data := #[81] } : ByteArray).data.toList) = false := word_Q
  replace m3 := isBad_ok m3
  refine loop_ok (fun m tm hp nx => ∃ i, m = n1 - i ∧ i ≤ n1 ∧ nx ≤ 10 ∧ get2 tm 0 = .int .i64 (.ofNat (n1)) ∧ get2 tm 1 = .int .u8 (.ofNat c) ∧ get2 tm 5 = .ps i (repB 113 i) ∧ get2 tm 6 = .ps i (repB 55 i) ∧ get2 tm 7 = .int .i64 (.ofNat i) ∧ get2 tm 255 = .un) (m := n1) (by omega)
    ⟨0, rfl, by omega, by omega, rfl, rfl, rfl, rfl, rfl, rfl⟩ ?_
  rintro m tm hp nx ⟨i, rfl, hi, hnx, e0, e1, e5, e6, e7, e255⟩ k hk
  (obtain ⟨y0, y1, y2, y3, y4, y5, y6, y7, y8, y9, y10, y11, y12, y13, y14, y15⟩ := tm; obtain ⟨x0, x1, x2, x3, x4, x5, x6, x7, x8, x9, x10, x11, x12, x13, x14, x15⟩ := y0; obtain ⟨x16, x17, x18, x19, x20, x21, x22, x23, x24, x25, x26, x27, x28, x29, x30, x31⟩ := y1; obtain ⟨x32, x33, x34, x35, x36, x37, x38, x39, x40, x41, x42, x43, x44, x45, x46, x47⟩ := y2; obtain ⟨x48, x49, x50, x51, x52, x53, x54, x55, x56, x57, x58, x59, x60, x61, x62, x63⟩ := y3; obtain ⟨x64, x65, x66, x67, x68, x69, x70, x71, x72, x73, x74, x75, x76, x77, x78, x79⟩ := y4; obtain ⟨x80, x81, x82, x83, x84, x85, x86, x87, x88, x89, x90, x91, x92, x93, x94, x95⟩ := y5; obtain ⟨x96, x97, x98, x99, x100, x101, x102, x103, x104, x105, x106, x107, x108, x109, x110, x111⟩ := y6; obtain ⟨x112, x113, x114, x115, x116, x117, x118, x119, x120, x121, x122, x123, x124, x125, x126, x127⟩ := y7; obtain ⟨x128, x129, x130, x131, x132, x133, x134, x135, x136, x137, x138, x139, x140, x141, x142, x143⟩ := y8; obtain ⟨x144, x145, x146, x147, x148, x149, x150, x151, x152, x153, x154, x155, x156, x157, x158, x159⟩ := y9; obtain ⟨x160, x161, x162, x163, x164, x165, x166, x167, x168, x169, x170, x171, x172, x173, x174, x175⟩ := y10; obtain ⟨x176, x177, x178, x179, x180, x181, x182, x183, x184, x185, x186, x187, x188, x189, x190, x191⟩ := y11; obtain ⟨x192, x193, x194, x195, x196, x197, x198, x199, x200, x201, x202, x203, x204, x205, x206, x207⟩ := y12; obtain ⟨x208, x209, x210, x211, x212, x213, x214, x215, x216, x217, x218, x219, x220, x221, x222, x223⟩ := y13; obtain ⟨x224, x225, x226, x227, x228, x229, x230, x231, x232, x233, x234, x235, x236, x237, x238, x239⟩ := y14; obtain ⟨x240, x241, x242, x243, x244, x245, x246, x247, x248, x249, x250, x251, x252, x253, x254, x255⟩ := y15)
  cases e0
  cases e1
  cases e5
  cases e6
  cases e7
  cases e255
  rcases Nat.lt_or_ge i (n1) with hlt | hge
  · clear hT b5
    repeat' ((conv => lhs; whnf); first | ((conv => lhs; arg 1; whnf); refine valK_ok ?_) | refine forceB_ok ?_ | refine forceN_add ?_ | refine forceN_sub ?_ | refine forceN_suc ?_ | refine forceN_part ?_ | refine forceN_byte ?_ | refine forceN_ok ?_ | refine forceZ_add ?_ | refine forceZ_mul (by (try simp only [maxK]); omega) ?_ | refine forceZ_sub ?_ | refine forceZ_ok ?_ | refine rowAt_ok (byteRows_get (by (try simp only [maxK]); omega)) ?_ | (apply rowAt_ok; (focus assumption)) | refine br_true (Nat.beq_refl _) ?_ | refine br_true (by assumption) ?_ | refine br_false (by assumption) ?_ | refine br_max (by (try simp only [maxK]); omega) ?_ | refine br_ble_t (by (try simp only [maxK]); omega) ?_ | refine br_ble_f (by (try simp only [maxK]); omega) ?_ | refine br_beq_f (by (try simp only [maxK]); omega) ?_ | refine br_true (by simp only [Bool.and_eq_true, Nat.ble_eq]; (try simp only []); omega) ?_ | (refine br_ble (fun h => ?_) (fun h => ?_) <;> (try simp only [] at h)) | (refine br_beq (fun h => ?_) (fun h => ?_) <;> (try simp only [] at h)) | refine br_split (fun h => ?_) (fun h => ?_) | fail)
    all_goals (try (conv => lhs; whnf))
    all_goals first
    | exact hk _ _ _ _ (by omega) ⟨i + 1, rfl, by omega, by omega, rfl, rfl, rfl, rfl, rfl, rfl⟩
    | (exfalso; have h9 : 9223372036854775807 < i + 1 := h; omega)
  obtain rfl : n1 = i := by omega
  clear hk hge hi
  obtain ⟨l1, m4⟩ := isAny_ok (m1 hs9)
  clear m1 m2
  obtain ⟨d, hd, hd1⟩ : ∃ d, 16 - n1 + 1 = d ∧ d = 16 - n1 + 1 := ⟨_, rfl, rfl⟩
  rw [hd] at w1 w2
  have hdN : Nat.add (16 - n1) 1 = d := hd
  repeat' (first | ((conv => lhs; whnf); refine forceN_as d hdN ?_) | ((conv => lhs; whnf); refine forceN_as T3 hT3 ?_) | (first | (first | ((conv => lhs; whnf); first | ((conv => lhs; arg 1; whnf); refine valK_ok ?_) | refine forceB_ok ?_ | refine forceN_add ?_ | refine forceN_sub ?_ | refine forceN_suc ?_ | refine forceN_part ?_ | refine forceN_byte ?_ | refine forceN_ok ?_ | refine forceZ_add ?_ | refine forceZ_mul (by (try simp only [maxK]); omega) ?_ | refine forceZ_sub ?_ | refine forceZ_ok ?_ | refine rowAt_ok (byteRows_get (by (try simp only [maxK]); omega)) ?_ | (apply rowAt_ok; (focus assumption)) | refine br_true (Nat.beq_refl _) ?_ | refine br_true (by assumption) ?_ | refine br_false (by assumption) ?_ | refine br_max (by (try simp only [maxK]); omega) ?_ | refine br_ble_t (by (try simp only [maxK]); omega) ?_ | refine br_ble_f (by (try simp only [maxK]); omega) ?_ | refine br_beq_f (by (try simp only [maxK]); omega) ?_ | refine br_true (by simp only [Bool.and_eq_true, Nat.ble_eq]; (try simp only []); omega) ?_ | (refine br_ble (fun h => ?_) (fun h => ?_) <;> (try simp only [] at h)) | (refine br_beq (fun h => ?_) (fun h => ?_) <;> (try simp only [] at h)) | refine br_split (fun h => ?_) (fun h => ?_) | fail) | ((conv => lhs; whnf); first | refine acc4_upd_ok (by omega) ?_ | refine acc4_get_same (by omega) ?_ | refine acc4_get_other (by omega) (by omega) (by omega) ?_ | refine acc4_get_ok (by omega) (by assumption) ?_ | refine opt3_split (fun h => ?_) (fun kind num tl h => ?_) | refine int_split (fun a h => ?_) (fun a h => ?_) | fail)) | ((conv => lhs; whnf); first | (apply lex_ok; (focus assumption)) | (apply lex_bad; (focus assumption)) | refine lex_split (fun l h => ?_) (fun a b h => ?_) | refine askP_ok (.inl ⟨_, Nat.le_trans (toksF_le _ _ _ _ _ _ ‹toksF _ _ _ _ _ = LexR.ok _›) (by first | omega | exact Nat.le_trans (Nat.succ_le_succ (Nat.min_le_right _ _)) (by decide)), rfl⟩) ?_ | refine askP_ok (.inr rfl) ?_ | fail)))
  all_goals (try (conv => lhs; whnf))
  all_goals first | (exfalso; omega) | skip
  all_goals (
    refine loop_ok (fun m tm hp' nx' => ∃ i b, m = 18 - i ∧ i ≤ 18 ∧ nx' ≤ 40 ∧ (b || hasB (18 - i) (signsN / 256 ^ i) c) = signB c ∧ get2 tm 1 = .int .u8 (.ofNat c) ∧ get2 tm 17 = .ro 5 (lt.map Tok.row) ∧ get2 tm 20 = .int .i64 (.ofNat 0) ∧ get2 tm 21 = .bool false ∧ get2 tm 22 = .bool b ∧
      get2 tm 139 = .ro 1 (byteRows 18 signsN) ∧ get2 tm 140 = .int .i64 (.ofNat 18) ∧ get2 tm 141 = .int .i64 (.ofNat i) ∧ get2 tm 255 = .un) (m := 18) (by omega)
      ⟨0, false, rfl, by omega, by omega, b5, rfl, rfl, rfl, rfl, rfl, signRows, rfl, rfl, rfl⟩ ?_
    rintro m tm hp' nx' ⟨i, b, rfl, hi, hnx', hb, e1, e17, e20, e21, e22, e139, e140, e141, e255⟩ k hk
    (obtain ⟨y0, y1, y2, y3, y4, y5, y6, y7, y8, y9, y10, y11, y12, y13, y14, y15⟩ := tm; obtain ⟨x0, x1, x2, x3, x4, x5, x6, x7, x8, x9, x10, x11, x12, x13, x14, x15⟩ := y0; obtain ⟨x16, x17, x18, x19, x20, x21, x22, x23, x24, x25, x26, x27, x28, x29, x30, x31⟩ := y1; obtain ⟨x32, x33, x34, x35, x36, x37, x38, x39, x40, x41, x42, x43, x44, x45, x46, x47⟩ := y2; obtain ⟨x48, x49, x50, x51, x52, x53, x54, x55, x56, x57, x58, x59, x60, x61, x62, x63⟩ := y3; obtain ⟨x64, x65, x66, x67, x68, x69, x70, x71, x72, x73, x74, x75, x76, x77, x78, x79⟩ := y4; obtain ⟨x80, x81, x82, x83, x84, x85, x86, x87, x88, x89, x90, x91, x92, x93, x94, x95⟩ := y5; obtain ⟨x96, x97, x98, x99, x100, x101, x102, x103, x104, x105, x106, x107, x108, x109, x110, x111⟩ := y6; obtain ⟨x112, x113, x114, x115, x116, x117, x118, x119, x120, x121, x122, x123, x124, x125, x126, x127⟩ := y7; obtain ⟨x128, x129, x130, x131, x132, x133, x134, x135, x136, x137, x138, x139, x140, x141, x142, x143⟩ := y8; obtain ⟨x144, x145, x146, x147, x148, x149, x150, x151, x152, x153, x154, x155, x156, x157, x158, x159⟩ := y9; obtain ⟨x160, x161, x162, x163, x164, x165, x166, x167, x168, x169, x170, x171, x172, x173, x174, x175⟩ := y10; obtain ⟨x176, x177, x178, x179, x180, x181, x182, x183, x184, x185, x186, x187, x188, x189, x190, x191⟩ := y11; obtain ⟨x192, x193, x194, x195, x196, x197, x198, x199, x200, x201, x202, x203, x204, x205, x206, x207⟩ := y12; obtain ⟨x208, x209, x210, x211, x212, x213, x214, x215, x216, x217, x218, x219, x220, x221, x222, x223⟩ := y13; obtain ⟨x224, x225, x226, x227, x228, x229, x230, x231, x232, x233, x234, x235, x236, x237, x238, x239⟩ := y14; obtain ⟨x240, x241, x242, x243, x244, x245, x246, x247, x248, x249, x250, x251, x252, x253, x254, x255⟩ := y15)
    cases e1
    cases e17
    cases e20
    cases e21
    cases e22
    cases e139
    cases e140
    cases e141
    cases e255
    have hbl := byteRows_length 18 signsN
    clear w1 w2 w3 w4 w5 m3 m4 b5
    rcases Nat.lt_or_ge i 18 with hlt | hge
    · rw [hasB_step hlt] at hb
      cases b with
      | true =>
        repeat' ((conv => lhs; whnf); first | ((conv => lhs; arg 1; whnf); refine valK_ok ?_) | refine forceB_ok ?_ | refine forceN_add ?_ | refine forceN_sub ?_ | refine forceN_suc ?_ | refine forceN_part ?_ | refine forceN_byte ?_ | refine forceN_ok ?_ | refine forceZ_add ?_ | refine forceZ_mul (by (try simp only [maxK]); omega) ?_ | refine forceZ_sub ?_ | refine forceZ_ok ?_ | refine rowAt_ok (byteRows_get (by (try simp only [maxK]); omega)) ?_ | (apply rowAt_ok; (focus assumption)) | refine br_true (Nat.beq_refl _) ?_ | refine br_true (by assumption) ?_ | refine br_false (by assumption) ?_ | refine br_max (by (try simp only [maxK]); omega) ?_ | refine br_ble_t (by (try simp only [maxK]); omega) ?_ | refine br_ble_f (by (try simp only [maxK]); omega) ?_ | refine br_beq_f (by (try simp only [maxK]); omega) ?_ | refine br_true (by simp only [Bool.and_eq_true, Nat.ble_eq]; (try simp only []); omega) ?_ | (refine br_ble (fun h => ?_) (fun h => ?_) <;> (try simp only [] at h)) | (refine br_beq (fun h => ?_) (fun h => ?_) <;> (try simp only [] at h)) | refine br_split (fun h => ?_) (fun h => ?_) | fail)
        all_goals (try (conv => lhs; whnf))
        exact hk _ _ _ _ (by omega) ⟨i + 1, true, rfl, by omega, by omega, by rw [Bool.true_or] at hb ⊢; exact hb, rfl, rfl, rfl, rfl, rfl, rfl, rfl, rfl, rfl⟩
      | false =>
        cases hbq : Nat.beq (signsN / 256 ^ i % 256) c with
        | true =>
          rw [hbq] at hb
          have hbe := Nat.eq_of_beq_eq_true hbq
          have hbq2 : Nat.beq c (signsN / 256 ^ i % 256) = true := by rw [hbe]; exact Nat.beq_refl _
          repeat' ((conv => lhs; whnf); first | ((conv => lhs; arg 1; whnf); refine valK_ok ?_) | refine forceB_ok ?_ | refine forceN_add ?_ | refine forceN_sub ?_ | refine forceN_suc ?_ | refine forceN_part ?_ | refine forceN_byte ?_ | refine forceN_ok ?_ | refine forceZ_add ?_ | refine forceZ_mul (by (try simp only [maxK]); omega) ?_ | refine forceZ_sub ?_ | refine forceZ_ok ?_ | refine rowAt_ok (byteRows_get (by (try simp only [maxK]); omega)) ?_ | (apply rowAt_ok; (focus assumption)) | refine br_true (Nat.beq_refl _) ?_ | refine br_true (by assumption) ?_ | refine br_false (by assumption) ?_ | refine br_max (by (try simp only [maxK]); omega) ?_ | refine br_ble_t (by (try simp only [maxK]); omega) ?_ | refine br_ble_f (by (try simp only [maxK]); omega) ?_ | refine br_beq_f (by (try simp only [maxK]); omega) ?_ | refine br_true (by simp only [Bool.and_eq_true, Nat.ble_eq]; (try simp only []); omega) ?_ | (refine br_ble (fun h => ?_) (fun h => ?_) <;> (try simp only [] at h)) | (refine br_beq (fun h => ?_) (fun h => ?_) <;> (try simp only [] at h)) | refine br_split (fun h => ?_) (fun h => ?_) | fail)
          all_goals (try (conv => lhs; whnf))
          exact hk _ _ _ _ (by omega) ⟨i + 1, true, rfl, by omega, by omega, by rw [Bool.true_or]; exact hb, rfl, rfl, rfl, rfl, rfl, rfl, rfl, rfl, rfl⟩
        | false =>
          rw [hbq] at hb
          have hbe := beq_false_iff.mp hbq
          have hbq2 : Nat.beq c (signsN / 256 ^ i % 256) = false := beq_false_iff.mpr (Ne.symm hbe)
          repeat' ((conv => lhs; whnf); first | ((conv => lhs; arg 1; whnf); refine valK_ok ?_) | refine forceB_ok ?_ | refine forceN_add ?_ | refine forceN_sub ?_ | refine forceN_suc ?_ | refine forceN_part ?_ | refine forceN_byte ?_ | refine forceN_ok ?_ | refine forceZ_add ?_ | refine forceZ_mul (by (try simp only [maxK]); omega) ?_ | refine forceZ_sub ?_ | refine forceZ_ok ?_ | refine rowAt_ok (byteRows_get (by (try simp only [maxK]); omega)) ?_ | (apply rowAt_ok; (focus assumption)) | refine br_true (Nat.beq_refl _) ?_ | refine br_true (by assumption) ?_ | refine br_false (by assumption) ?_ | refine br_max (by (try simp only [maxK]); omega) ?_ | refine br_ble_t (by (try simp only [maxK]); omega) ?_ | refine br_ble_f (by (try simp only [maxK]); omega) ?_ | refine br_beq_f (by (try simp only [maxK]); omega) ?_ | refine br_true (by simp only [Bool.and_eq_true, Nat.ble_eq]; (try simp only []); omega) ?_ | (refine br_ble (fun h => ?_) (fun h => ?_) <;> (try simp only [] at h)) | (refine br_beq (fun h => ?_) (fun h => ?_) <;> (try simp only [] at h)) | refine br_split (fun h => ?_) (fun h => ?_) | fail)
          all_goals (try (conv => lhs; whnf))
          exact hk _ _ _ _ (by omega) ⟨i + 1, false, rfl, by omega, by omega, hb, rfl, rfl, rfl, rfl, rfl, rfl, rfl, rfl, rfl⟩
    · obtain rfl : i = 18 := by omega
      rw [Nat.sub_self, show hasB 0 (signsN / 256 ^ 18) c = false from rfl, Bool.or_false] at hb
      subst hb
      have hTb : Nat.beq (lt.map Tok.row).length 4 = true := by rw [List.length_map, hTl]; rfl
      repeat' ((conv => lhs; whnf); first | ((conv => lhs; arg 1; whnf); refine valK_ok ?_) | refine forceB_ok ?_ | refine forceN_add ?_ | refine forceN_sub ?_ | refine forceN_suc ?_ | refine forceN_part ?_ | refine forceN_byte ?_ | refine forceN_ok ?_ | refine forceZ_add ?_ | refine forceZ_mul (by (try simp only [maxK]); omega) ?_ | refine forceZ_sub ?_ | refine forceZ_ok ?_ | refine rowAt_ok (byteRows_get (by (try simp only [maxK]); omega)) ?_ | (apply rowAt_ok; (focus assumption)) | refine br_true (Nat.beq_refl _) ?_ | refine br_true (by assumption) ?_ | refine br_false (by assumption) ?_ | refine br_max (by (try simp only [maxK]); omega) ?_ | refine br_ble_t (by (try simp only [maxK]); omega) ?_ | refine br_ble_f (by (try simp only [maxK]); omega) ?_ | refine br_beq_f (by (try simp only [maxK]); omega) ?_ | refine br_true (by simp only [Bool.and_eq_true, Nat.ble_eq]; (try simp only []); omega) ?_ | (refine br_ble (fun h => ?_) (fun h => ?_) <;> (try simp only [] at h)) | (refine br_beq (fun h => ?_) (fun h => ?_) <;> (try simp only [] at h)) | refine br_split (fun h => ?_) (fun h => ?_) | fail)
      all_goals (try (conv => lhs; whnf))
      all_goals first | exact okIf_ok (frz_bool rfl) | (exfalso; omega))

set_option maxHeartbeats 8000000 in
theorem lexForms_lo_sign_b (z : Int) (c : Nat) (hc : c < 256) (hs9 : withinN z 14 + 1 ≤ 9) (hcl : (c < 48 ∧ c ≠ 35 ∧ c ≠ 32 ∧ c ≠ 9 ∧ c ≠ 10) ∧ signB c = true) : Says ρ Tryd.prog 6 [.int .i64 z, .int .u8 (.ofNat c)] (.bool true) := by
  have hw := withinN_lt z (b := 14) (by omega) (by omega)
  refine says_run (call := over 14 ovWithin (over 15 ovWord (over 10 ovToks (over 13 ovWakes call0)))) follows globL_ok (over_ok ovWithin_ok (over_ok ovWord_ok (over_ok (ovToks_ok tokens_says) (over_ok ovWakes_ok call0_ok)))) (arg2 rfl rfl) ?_
  generalize hk : withinN z 14 = k0 at hw hs9
  repeat' (first | (first | ((conv => lhs; whnf); first | ((conv => lhs; arg 1; whnf); refine valK_ok ?_) | refine forceB_ok ?_ | refine forceN_add ?_ | refine forceN_sub ?_ | refine forceN_suc ?_ | refine forceN_part ?_ | refine forceN_byte ?_ | refine forceN_ok ?_ | refine forceZ_add ?_ | refine forceZ_mul (by (try simp only [maxK]); omega) ?_ | refine forceZ_sub ?_ | refine forceZ_ok ?_ | refine rowAt_ok (byteRows_get (by (try simp only [maxK]); omega)) ?_ | (apply rowAt_ok; (focus assumption)) | refine br_true (Nat.beq_refl _) ?_ | refine br_true (by assumption) ?_ | refine br_false (by assumption) ?_ | refine br_max (by (try simp only [maxK]); omega) ?_ | refine br_ble_t (by (try simp only [maxK]); omega) ?_ | refine br_ble_f (by (try simp only [maxK]); omega) ?_ | refine br_beq_f (by (try simp only [maxK]); omega) ?_ | refine br_true (by simp only [Bool.and_eq_true, Nat.ble_eq]; (try simp only []); omega) ?_ | (refine br_ble (fun h => ?_) (fun h => ?_) <;> (try simp only [] at h)) | (refine br_beq (fun h => ?_) (fun h => ?_) <;> (try simp only [] at h)) | refine br_split (fun h => ?_) (fun h => ?_) | fail) | ((conv => lhs; whnf); first | refine acc4_upd_ok (by omega) ?_ | refine acc4_get_same (by omega) ?_ | refine acc4_get_other (by omega) (by omega) (by omega) ?_ | refine acc4_get_ok (by omega) (by assumption) ?_ | refine opt3_split (fun h => ?_) (fun kind num tl h => ?_) | refine int_split (fun a h => ?_) (fun a h => ?_) | fail)) | ((conv => lhs; whnf); first | (apply lex_ok; (focus assumption)) | (apply lex_bad; (focus assumption)) | refine lex_split (fun l h => ?_) (fun a b h => ?_) | refine askP_ok (.inl ⟨_, Nat.le_trans (toksF_le _ _ _ _ _ _ ‹toksF _ _ _ _ _ = LexR.ok _›) (by first | omega | exact Nat.le_trans (Nat.succ_le_succ (Nat.min_le_right _ _)) (by decide)), rfl⟩) ?_ | refine askP_ok (.inr rfl) ?_ | fail))
  all_goals (try (conv => lhs; whnf))
  rw [hk]
  obtain ⟨n1, hn1, hlo, hhi⟩ : ∃ n1, k0 + 1 = n1 ∧ 1 ≤ n1 ∧ n1 ≤ 14 := ⟨k0 + 1, rfl, by omega, by omega⟩
  rw [hn1]
  rw [hn1] at hs9
  clear hn1 hk hw
  obtain ⟨w1, w2, w3⟩ := word_facts n1 (by omega) (by omega)
  obtain ⟨m1, m2, m3⟩ := num_facts n1 (by omega) (by omega)
  obtain ⟨b1, b2, b3, b4, b5⟩ := byte_facts c hc
  obtain ⟨c1, c3⟩ := hcl
  have hT := isLenB_ok (b3 (by unfold plainP; omega) (by omega) c3)
  obtain ⟨lt, hT, hTl⟩ := hT
  rw [← toks3] at hT
  obtain ⟨T3, hT3⟩ : ∃ T3, Nat.add (packL ({ data := #[97] } : ByteArray).data.toList + (c + Nat.mul 256 Nat.zero).mul (Nat.pow 256 ({ data := #[97] } : ByteArray).size)) ((packL ({ data := #[98] } : ByteArray).data.toList).mul (Nat.pow 256 (({ data := #[97] } : ByteArray).size + 1))) = T3 := ⟨_, rfl⟩
  rw [show packL ({ data := #[97] } : ByteArray).data.toList + (c + Nat.mul 256 Nat.zero).mul (Nat.pow 256 ({ data := #[97] } : ByteArray).size) + (packL ({ data := #[98] } : ByteArray).data.toList).mul (Nat.pow 256 (({ data := #[97] } : ByteArray).size + 1)) = T3 from hT3] at hT
  clear b1 b2 b3 b4
  have hs113 : ({ data := #[113] } : ByteArray).size = 1 := rfl
  have hs55 : ({ data := #[55] } : ByteArray).size = 1 := rfl
  have hs120 : ({ data := #[120] } : ByteArray).size = 1 := rfl
  have hs49 : ({ data := #[49] } : ByteArray).size = 1 := rfl
  have hs32 : ({ data := #[32] } : ByteArray).size = 1 := rfl
  have hs48 : ({ data := #[48] } : ByteArray).size = 1 := rfl
  have hs97 : ({ data := #[97] } : ByteArray).size = 1 := rfl
  have hs98 : ({ data := #[98] } : ByteArray).size = 1 := rfl
  have hs81 : ({ data := #[81] } : ByteArray).size = 1 := rfl
  have hsK : ({ data := #[95, 48, 49, 50, 51, 52, 53, 54, 55, 56, 57, 97, 98, 99, 100, 101, 102, 103, 104] } : ByteArray).size = 19 := rfl
  have w4 : wordM ({ data := #[] } : ByteArray).size (packL ({ data := #[] } : ByteArray).data.toList) = false := word_nil
  have w5 : wordM ({ data := #[81] } : ByteArray).size (packL ({ data := #[81] } : ByteArray).data.toList) = false := word_Q
  replace m3 := isBad_ok m3
  refine loop_ok (fun m tm hp nx => ∃ i, m = n1 - i ∧ i ≤ n1 ∧ nx ≤ 10 ∧ get2 tm 0 = .int .i64 (.ofNat (n1)) ∧ get2 tm 1 = .int .u8 (.ofNat c) ∧ get2 tm 5 = .ps i (repB 113 i) ∧ get2 tm 6 = .ps i (repB 55 i) ∧ get2 tm 7 = .int .i64 (.ofNat i) ∧ get2 tm 255 = .un) (m := n1) (by omega)
    ⟨0, rfl, by omega, by omega, rfl, rfl, rfl, rfl, rfl, rfl⟩ ?_
  rintro m tm hp nx ⟨i, rfl, hi, hnx, e0, e1, e5, e6, e7, e255⟩ k hk
  (obtain ⟨y0, y1, y2, y3, y4, y5, y6, y7, y8, y9, y10, y11, y12, y13, y14, y15⟩ := tm; obtain ⟨x0, x1, x2, x3, x4, x5, x6, x7, x8, x9, x10, x11, x12, x13, x14, x15⟩ := y0; obtain ⟨x16, x17, x18, x19, x20, x21, x22, x23, x24, x25, x26, x27, x28, x29, x30, x31⟩ := y1; obtain ⟨x32, x33, x34, x35, x36, x37, x38, x39, x40, x41, x42, x43, x44, x45, x46, x47⟩ := y2; obtain ⟨x48, x49, x50, x51, x52, x53, x54, x55, x56, x57, x58, x59, x60, x61, x62, x63⟩ := y3; obtain ⟨x64, x65, x66, x67, x68, x69, x70, x71, x72, x73, x74, x75, x76, x77, x78, x79⟩ := y4; obtain ⟨x80, x81, x82, x83, x84, x85, x86, x87, x88, x89, x90, x91, x92, x93, x94, x95⟩ := y5; obtain ⟨x96, x97, x98, x99, x100, x101, x102, x103, x104, x105, x106, x107, x108, x109, x110, x111⟩ := y6; obtain ⟨x112, x113, x114, x115, x116, x117, x118, x119, x120, x121, x122, x123, x124, x125, x126, x127⟩ := y7; obtain ⟨x128, x129, x130, x131, x132, x133, x134, x135, x136, x137, x138, x139, x140, x141, x142, x143⟩ := y8; obtain ⟨x144, x145, x146, x147, x148, x149, x150, x151, x152, x153, x154, x155, x156, x157, x158, x159⟩ := y9; obtain ⟨x160, x161, x162, x163, x164, x165, x166, x167, x168, x169, x170, x171, x172, x173, x174, x175⟩ := y10; obtain ⟨x176, x177, x178, x179, x180, x181, x182, x183, x184, x185, x186, x187, x188, x189, x190, x191⟩ := y11; obtain ⟨x192, x193, x194, x195, x196, x197, x198, x199, x200, x201, x202, x203, x204, x205, x206, x207⟩ := y12; obtain ⟨x208, x209, x210, x211, x212, x213, x214, x215, x216, x217, x218, x219, x220, x221, x222, x223⟩ := y13; obtain ⟨x224, x225, x226, x227, x228, x229, x230, x231, x232, x233, x234, x235, x236, x237, x238, x239⟩ := y14; obtain ⟨x240, x241, x242, x243, x244, x245, x246, x247, x248, x249, x250, x251, x252, x253, x254, x255⟩ := y15)
  cases e0
  cases e1
  cases e5
  cases e6
  cases e7
  cases e255
  rcases Nat.lt_or_ge i (n1) with hlt | hge
  · clear hT b5
    repeat' ((conv => lhs; whnf); first | ((conv => lhs; arg 1; whnf); refine valK_ok ?_) | refine forceB_ok ?_ | refine forceN_add ?_ | refine forceN_sub ?_ | refine forceN_suc ?_ | refine forceN_part ?_ | refine forceN_byte ?_ | refine forceN_ok ?_ | refine forceZ_add ?_ | refine forceZ_mul (by (try simp only [maxK]); omega) ?_ | refine forceZ_sub ?_ | refine forceZ_ok ?_ | refine rowAt_ok (byteRows_get (by (try simp only [maxK]); omega)) ?_ | (apply rowAt_ok; (focus assumption)) | refine br_true (Nat.beq_refl _) ?_ | refine br_true (by assumption) ?_ | refine br_false (by assumption) ?_ | refine br_max (by (try simp only [maxK]); omega) ?_ | refine br_ble_t (by (try simp only [maxK]); omega) ?_ | refine br_ble_f (by (try simp only [maxK]); omega) ?_ | refine br_beq_f (by (try simp only [maxK]); omega) ?_ | refine br_true (by simp only [Bool.and_eq_true, Nat.ble_eq]; (try simp only []); omega) ?_ | (refine br_ble (fun h => ?_) (fun h => ?_) <;> (try simp only [] at h)) | (refine br_beq (fun h => ?_) (fun h => ?_) <;> (try simp only [] at h)) | refine br_split (fun h => ?_) (fun h => ?_) | fail)
    all_goals (try (conv => lhs; whnf))
    all_goals first
    | exact hk _ _ _ _ (by omega) ⟨i + 1, rfl, by omega, by omega, rfl, rfl, rfl, rfl, rfl, rfl⟩
    | (exfalso; have h9 : 9223372036854775807 < i + 1 := h; omega)
  obtain rfl : n1 = i := by omega
  clear hk hge hi
  obtain ⟨l1, m4⟩ := isAny_ok (m1 hs9)
  clear m1 m2
  obtain ⟨d, hd, hd1⟩ : ∃ d, 16 - n1 + 1 = d ∧ d = 16 - n1 + 1 := ⟨_, rfl, rfl⟩
  rw [hd] at w1 w2
  have hdN : Nat.add (16 - n1) 1 = d := hd
  repeat' (first | ((conv => lhs; whnf); refine forceN_as d hdN ?_) | ((conv => lhs; whnf); refine forceN_as T3 hT3 ?_) | (first | (first | ((conv => lhs; whnf); first | ((conv => lhs; arg 1; whnf); refine valK_ok ?_) | refine forceB_ok ?_ | refine forceN_add ?_ | refine forceN_sub ?_ | refine forceN_suc ?_ | refine forceN_part ?_ | refine forceN_byte ?_ | refine forceN_ok ?_ | refine forceZ_add ?_ | refine forceZ_mul (by (try simp only [maxK]); omega) ?_ | refine forceZ_sub ?_ | refine forceZ_ok ?_ | refine rowAt_ok (byteRows_get (by (try simp only [maxK]); omega)) ?_ | (apply rowAt_ok; (focus assumption)) | refine br_true (Nat.beq_refl _) ?_ | refine br_true (by assumption) ?_ | refine br_false (by assumption) ?_ | refine br_max (by (try simp only [maxK]); omega) ?_ | refine br_ble_t (by (try simp only [maxK]); omega) ?_ | refine br_ble_f (by (try simp only [maxK]); omega) ?_ | refine br_beq_f (by (try simp only [maxK]); omega) ?_ | refine br_true (by simp only [Bool.and_eq_true, Nat.ble_eq]; (try simp only []); omega) ?_ | (refine br_ble (fun h => ?_) (fun h => ?_) <;> (try simp only [] at h)) | (refine br_beq (fun h => ?_) (fun h => ?_) <;> (try simp only [] at h)) | refine br_split (fun h => ?_) (fun h => ?_) | fail) | ((conv => lhs; whnf); first | refine acc4_upd_ok (by omega) ?_ | refine acc4_get_same (by omega) ?_ | refine acc4_get_other (by omega) (by omega) (by omega) ?_ | refine acc4_get_ok (by omega) (by assumption) ?_ | refine opt3_split (fun h => ?_) (fun kind num tl h => ?_) | refine int_split (fun a h => ?_) (fun a h => ?_) | fail)) | ((conv => lhs; whnf); first | (apply lex_ok; (focus assumption)) | (apply lex_bad; (focus assumption)) | refine lex_split (fun l h => ?_) (fun a b h => ?_) | refine askP_ok (.inl ⟨_, Nat.le_trans (toksF_le _ _ _ _ _ _ ‹toksF _ _ _ _ _ = LexR.ok _›) (by first | omega | exact Nat.le_trans (Nat.succ_le_succ (Nat.min_le_right _ _)) (by decide)), rfl⟩) ?_ | refine askP_ok (.inr rfl) ?_ | fail)))
  all_goals (try (conv => lhs; whnf))
  all_goals first | (exfalso; omega) | skip
  all_goals (
    refine loop_ok (fun m tm hp' nx' => ∃ i b, m = 18 - i ∧ i ≤ 18 ∧ nx' ≤ 40 ∧ (b || hasB (18 - i) (signsN / 256 ^ i) c) = signB c ∧ get2 tm 1 = .int .u8 (.ofNat c) ∧ get2 tm 17 = .ro 5 (lt.map Tok.row) ∧ get2 tm 20 = .int .i64 (.ofNat 0) ∧ get2 tm 21 = .bool false ∧ get2 tm 22 = .bool b ∧
      get2 tm 139 = .ro 1 (byteRows 18 signsN) ∧ get2 tm 140 = .int .i64 (.ofNat 18) ∧ get2 tm 141 = .int .i64 (.ofNat i) ∧ get2 tm 255 = .un) (m := 18) (by omega)
      ⟨0, false, rfl, by omega, by omega, b5, rfl, rfl, rfl, rfl, rfl, signRows, rfl, rfl, rfl⟩ ?_
    rintro m tm hp' nx' ⟨i, b, rfl, hi, hnx', hb, e1, e17, e20, e21, e22, e139, e140, e141, e255⟩ k hk
    (obtain ⟨y0, y1, y2, y3, y4, y5, y6, y7, y8, y9, y10, y11, y12, y13, y14, y15⟩ := tm; obtain ⟨x0, x1, x2, x3, x4, x5, x6, x7, x8, x9, x10, x11, x12, x13, x14, x15⟩ := y0; obtain ⟨x16, x17, x18, x19, x20, x21, x22, x23, x24, x25, x26, x27, x28, x29, x30, x31⟩ := y1; obtain ⟨x32, x33, x34, x35, x36, x37, x38, x39, x40, x41, x42, x43, x44, x45, x46, x47⟩ := y2; obtain ⟨x48, x49, x50, x51, x52, x53, x54, x55, x56, x57, x58, x59, x60, x61, x62, x63⟩ := y3; obtain ⟨x64, x65, x66, x67, x68, x69, x70, x71, x72, x73, x74, x75, x76, x77, x78, x79⟩ := y4; obtain ⟨x80, x81, x82, x83, x84, x85, x86, x87, x88, x89, x90, x91, x92, x93, x94, x95⟩ := y5; obtain ⟨x96, x97, x98, x99, x100, x101, x102, x103, x104, x105, x106, x107, x108, x109, x110, x111⟩ := y6; obtain ⟨x112, x113, x114, x115, x116, x117, x118, x119, x120, x121, x122, x123, x124, x125, x126, x127⟩ := y7; obtain ⟨x128, x129, x130, x131, x132, x133, x134, x135, x136, x137, x138, x139, x140, x141, x142, x143⟩ := y8; obtain ⟨x144, x145, x146, x147, x148, x149, x150, x151, x152, x153, x154, x155, x156, x157, x158, x159⟩ := y9; obtain ⟨x160, x161, x162, x163, x164, x165, x166, x167, x168, x169, x170, x171, x172, x173, x174, x175⟩ := y10; obtain ⟨x176, x177, x178, x179, x180, x181, x182, x183, x184, x185, x186, x187, x188, x189, x190, x191⟩ := y11; obtain ⟨x192, x193, x194, x195, x196, x197, x198, x199, x200, x201, x202, x203, x204, x205, x206, x207⟩ := y12; obtain ⟨x208, x209, x210, x211, x212, x213, x214, x215, x216, x217, x218, x219, x220, x221, x222, x223⟩ := y13; obtain ⟨x224, x225, x226, x227, x228, x229, x230, x231, x232, x233, x234, x235, x236, x237, x238, x239⟩ := y14; obtain ⟨x240, x241, x242, x243, x244, x245, x246, x247, x248, x249, x250, x251, x252, x253, x254, x255⟩ := y15)
    cases e1
    cases e17
    cases e20
    cases e21
    cases e22
    cases e139
    cases e140
    cases e141
    cases e255
    have hbl := byteRows_length 18 signsN
    clear w1 w2 w3 w4 w5 m3 m4 b5
    rcases Nat.lt_or_ge i 18 with hlt | hge
    · rw [hasB_step hlt] at hb
      cases b with
      | true =>
        repeat' ((conv => lhs; whnf); first | ((conv => lhs; arg 1; whnf); refine valK_ok ?_) | refine forceB_ok ?_ | refine forceN_add ?_ | refine forceN_sub ?_ | refine forceN_suc ?_ | refine forceN_part ?_ | refine forceN_byte ?_ | refine forceN_ok ?_ | refine forceZ_add ?_ | refine forceZ_mul (by (try simp only [maxK]); omega) ?_ | refine forceZ_sub ?_ | refine forceZ_ok ?_ | refine rowAt_ok (byteRows_get (by (try simp only [maxK]); omega)) ?_ | (apply rowAt_ok; (focus assumption)) | refine br_true (Nat.beq_refl _) ?_ | refine br_true (by assumption) ?_ | refine br_false (by assumption) ?_ | refine br_max (by (try simp only [maxK]); omega) ?_ | refine br_ble_t (by (try simp only [maxK]); omega) ?_ | refine br_ble_f (by (try simp only [maxK]); omega) ?_ | refine br_beq_f (by (try simp only [maxK]); omega) ?_ | refine br_true (by simp only [Bool.and_eq_true, Nat.ble_eq]; (try simp only []); omega) ?_ | (refine br_ble (fun h => ?_) (fun h => ?_) <;> (try simp only [] at h)) | (refine br_beq (fun h => ?_) (fun h => ?_) <;> (try simp only [] at h)) | refine br_split (fun h => ?_) (fun h => ?_) | fail)
        all_goals (try (conv => lhs; whnf))
        exact hk _ _ _ _ (by omega) ⟨i + 1, true, rfl, by omega, by omega, by rw [Bool.true_or] at hb ⊢; exact hb, rfl, rfl, rfl, rfl, rfl, rfl, rfl, rfl, rfl⟩
      | false =>
        cases hbq : Nat.beq (signsN / 256 ^ i % 256) c with
        | true =>
          rw [hbq] at hb
          have hbe := Nat.eq_of_beq_eq_true hbq
          have hbq2 : Nat.beq c (signsN / 256 ^ i % 256) = true := by rw [hbe]; exact Nat.beq_refl _
          repeat' ((conv => lhs; whnf); first | ((conv => lhs; arg 1; whnf); refine valK_ok ?_) | refine forceB_ok ?_ | refine forceN_add ?_ | refine forceN_sub ?_ | refine forceN_suc ?_ | refine forceN_part ?_ | refine forceN_byte ?_ | refine forceN_ok ?_ | refine forceZ_add ?_ | refine forceZ_mul (by (try simp only [maxK]); omega) ?_ | refine forceZ_sub ?_ | refine forceZ_ok ?_ | refine rowAt_ok (byteRows_get (by (try simp only [maxK]); omega)) ?_ | (apply rowAt_ok; (focus assumption)) | refine br_true (Nat.beq_refl _) ?_ | refine br_true (by assumption) ?_ | refine br_false (by assumption) ?_ | refine br_max (by (try simp only [maxK]); omega) ?_ | refine br_ble_t (by (try simp only [maxK]); omega) ?_ | refine br_ble_f (by (try simp only [maxK]); omega) ?_ | refine br_beq_f (by (try simp only [maxK]); omega) ?_ | refine br_true (by simp only [Bool.and_eq_true, Nat.ble_eq]; (try simp only []); omega) ?_ | (refine br_ble (fun h => ?_) (fun h => ?_) <;> (try simp only [] at h)) | (refine br_beq (fun h => ?_) (fun h => ?_) <;> (try simp only [] at h)) | refine br_split (fun h => ?_) (fun h => ?_) | fail)
          all_goals (try (conv => lhs; whnf))
          exact hk _ _ _ _ (by omega) ⟨i + 1, true, rfl, by omega, by omega, by rw [Bool.true_or]; exact hb, rfl, rfl, rfl, rfl, rfl, rfl, rfl, rfl, rfl⟩
        | false =>
          rw [hbq] at hb
          have hbe := beq_false_iff.mp hbq
          have hbq2 : Nat.beq c (signsN / 256 ^ i % 256) = false := beq_false_iff.mpr (Ne.symm hbe)
          repeat' ((conv => lhs; whnf); first | ((conv => lhs; arg 1; whnf); refine valK_ok ?_) | refine forceB_ok ?_ | refine forceN_add ?_ | refine forceN_sub ?_ | refine forceN_suc ?_ | refine forceN_part ?_ | refine forceN_byte ?_ | refine forceN_ok ?_ | refine forceZ_add ?_ | refine forceZ_mul (by (try simp only [maxK]); omega) ?_ | refine forceZ_sub ?_ | refine forceZ_ok ?_ | refine rowAt_ok (byteRows_get (by (try simp only [maxK]); omega)) ?_ | (apply rowAt_ok; (focus assumption)) | refine br_true (Nat.beq_refl _) ?_ | refine br_true (by assumption) ?_ | refine br_false (by assumption) ?_ | refine br_max (by (try simp only [maxK]); omega) ?_ | refine br_ble_t (by (try simp only [maxK]); omega) ?_ | refine br_ble_f (by (try simp only [maxK]); omega) ?_ | refine br_beq_f (by (try simp only [maxK]); omega) ?_ | refine br_true (by simp only [Bool.and_eq_true, Nat.ble_eq]; (try simp only []); omega) ?_ | (refine br_ble (fun h => ?_) (fun h => ?_) <;> (try simp only [] at h)) | (refine br_beq (fun h => ?_) (fun h => ?_) <;> (try simp only [] at h)) | refine br_split (fun h => ?_) (fun h => ?_) | fail)
          all_goals (try (conv => lhs; whnf))
          exact hk _ _ _ _ (by omega) ⟨i + 1, false, rfl, by omega, by omega, hb, rfl, rfl, rfl, rfl, rfl, rfl, rfl, rfl, rfl⟩
    · obtain rfl : i = 18 := by omega
      rw [Nat.sub_self, show hasB 0 (signsN / 256 ^ 18) c = false from rfl, Bool.or_false] at hb
      subst hb
      have hTb : Nat.beq (lt.map Tok.row).length 4 = true := by rw [List.length_map, hTl]; rfl
      repeat' ((conv => lhs; whnf); first | ((conv => lhs; arg 1; whnf); refine valK_ok ?_) | refine forceB_ok ?_ | refine forceN_add ?_ | refine forceN_sub ?_ | refine forceN_suc ?_ | refine forceN_part ?_ | refine forceN_byte ?_ | refine forceN_ok ?_ | refine forceZ_add ?_ | refine forceZ_mul (by (try simp only [maxK]); omega) ?_ | refine forceZ_sub ?_ | refine forceZ_ok ?_ | refine rowAt_ok (byteRows_get (by (try simp only [maxK]); omega)) ?_ | (apply rowAt_ok; (focus assumption)) | refine br_true (Nat.beq_refl _) ?_ | refine br_true (by assumption) ?_ | refine br_false (by assumption) ?_ | refine br_max (by (try simp only [maxK]); omega) ?_ | refine br_ble_t (by (try simp only [maxK]); omega) ?_ | refine br_ble_f (by (try simp only [maxK]); omega) ?_ | refine br_beq_f (by (try simp only [maxK]); omega) ?_ | refine br_true (by simp only [Bool.and_eq_true, Nat.ble_eq]; (try simp only []); omega) ?_ | (refine br_ble (fun h => ?_) (fun h => ?_) <;> (try simp only [] at h)) | (refine br_beq (fun h => ?_) (fun h => ?_) <;> (try simp only [] at h)) | refine br_split (fun h => ?_) (fun h => ?_) | fail)
      all_goals (try (conv => lhs; whnf))
      all_goals first | exact okIf_ok (frz_bool rfl) | (exfalso; omega))

set_option maxHeartbeats 8000000 in
theorem lexForms_lo_sign_c (z : Int) (c : Nat) (hc : c < 256) (hs9 : withinN z 14 + 1 ≤ 9) (hcl : (58 ≤ c ∧ c ≤ 96 ∧ c ≠ 95) ∧ signB c = true) : Says ρ Tryd.prog 6 [.int .i64 z, .int .u8 (.ofNat c)] (.bool true) := by
  have hw := withinN_lt z (b := 14) (by omega) (by omega)
  refine says_run (call := over 14 ovWithin (over 15 ovWord (over 10 ovToks (over 13 ovWakes call0)))) follows globL_ok (over_ok ovWithin_ok (over_ok ovWord_ok (over_ok (ovToks_ok tokens_says) (over_ok ovWakes_ok call0_ok)))) (arg2 rfl rfl) ?_
  generalize hk : withinN z 14 = k0 at hw hs9
  repeat' (first | (first | ((conv => lhs; whnf); first | ((conv => lhs; arg 1; whnf); refine valK_ok ?_) | refine forceB_ok ?_ | refine forceN_add ?_ | refine forceN_sub ?_ | refine forceN_suc ?_ | refine forceN_part ?_ | refine forceN_byte ?_ | refine forceN_ok ?_ | refine forceZ_add ?_ | refine forceZ_mul (by (try simp only [maxK]); omega) ?_ | refine forceZ_sub ?_ | refine forceZ_ok ?_ | refine rowAt_ok (byteRows_get (by (try simp only [maxK]); omega)) ?_ | (apply rowAt_ok; (focus assumption)) | refine br_true (Nat.beq_refl _) ?_ | refine br_true (by assumption) ?_ | refine br_false (by assumption) ?_ | refine br_max (by (try simp only [maxK]); omega) ?_ | refine br_ble_t (by (try simp only [maxK]); omega) ?_ | refine br_ble_f (by (try simp only [maxK]); omega) ?_ | refine br_beq_f (by (try simp only [maxK]); omega) ?_ | refine br_true (by simp only [Bool.and_eq_true, Nat.ble_eq]; (try simp only []); omega) ?_ | (refine br_ble (fun h => ?_) (fun h => ?_) <;> (try simp only [] at h)) | (refine br_beq (fun h => ?_) (fun h => ?_) <;> (try simp only [] at h)) | refine br_split (fun h => ?_) (fun h => ?_) | fail) | ((conv => lhs; whnf); first | refine acc4_upd_ok (by omega) ?_ | refine acc4_get_same (by omega) ?_ | refine acc4_get_other (by omega) (by omega) (by omega) ?_ | refine acc4_get_ok (by omega) (by assumption) ?_ | refine opt3_split (fun h => ?_) (fun kind num tl h => ?_) | refine int_split (fun a h => ?_) (fun a h => ?_) | fail)) | ((conv => lhs; whnf); first | (apply lex_ok; (focus assumption)) | (apply lex_bad; (focus assumption)) | refine lex_split (fun l h => ?_) (fun a b h => ?_) | refine askP_ok (.inl ⟨_, Nat.le_trans (toksF_le _ _ _ _ _ _ ‹toksF _ _ _ _ _ = LexR.ok _›) (by first | omega | exact Nat.le_trans (Nat.succ_le_succ (Nat.min_le_right _ _)) (by decide)), rfl⟩) ?_ | refine askP_ok (.inr rfl) ?_ | fail))
  all_goals (try (conv => lhs; whnf))
  rw [hk]
  obtain ⟨n1, hn1, hlo, hhi⟩ : ∃ n1, k0 + 1 = n1 ∧ 1 ≤ n1 ∧ n1 ≤ 14 := ⟨k0 + 1, rfl, by omega, by omega⟩
  rw [hn1]
  rw [hn1] at hs9
  clear hn1 hk hw
  obtain ⟨w1, w2, w3⟩ := word_facts n1 (by omega) (by omega)
  obtain ⟨m1, m2, m3⟩ := num_facts n1 (by omega) (by omega)
  obtain ⟨b1, b2, b3, b4, b5⟩ := byte_facts c hc
  obtain ⟨c1, c3⟩ := hcl
  have hT := isLenB_ok (b3 (by unfold plainP; omega) (by omega) c3)
  obtain ⟨lt, hT, hTl⟩ := hT
  rw [← toks3] at hT
  obtain ⟨T3, hT3⟩ : ∃ T3, Nat.add (packL ({ data := #[97] } : ByteArray).data.toList + (c + Nat.mul 256 Nat.zero).mul (Nat.pow 256 ({ data := #[97] } : ByteArray).size)) ((packL ({ data := #[98] } : ByteArray).data.toList).mul (Nat.pow 256 (({ data := #[97] } : ByteArray).size + 1))) = T3 := ⟨_, rfl⟩
  rw [show packL ({ data := #[97] } : ByteArray).data.toList + (c + Nat.mul 256 Nat.zero).mul (Nat.pow 256 ({ data := #[97] } : ByteArray).size) + (packL ({ data := #[98] } : ByteArray).data.toList).mul (Nat.pow 256 (({ data := #[97] } : ByteArray).size + 1)) = T3 from hT3] at hT
  clear b1 b2 b3 b4
  have hs113 : ({ data := #[113] } : ByteArray).size = 1 := rfl
  have hs55 : ({ data := #[55] } : ByteArray).size = 1 := rfl
  have hs120 : ({ data := #[120] } : ByteArray).size = 1 := rfl
  have hs49 : ({ data := #[49] } : ByteArray).size = 1 := rfl
  have hs32 : ({ data := #[32] } : ByteArray).size = 1 := rfl
  have hs48 : ({ data := #[48] } : ByteArray).size = 1 := rfl
  have hs97 : ({ data := #[97] } : ByteArray).size = 1 := rfl
  have hs98 : ({ data := #[98] } : ByteArray).size = 1 := rfl
  have hs81 : ({ data := #[81] } : ByteArray).size = 1 := rfl
  have hsK : ({ data := #[95, 48, 49, 50, 51, 52, 53, 54, 55, 56, 57, 97, 98, 99, 100, 101, 102, 103, 104] } : ByteArray).size = 19 := rfl
  have w4 : wordM ({ data := #[] } : ByteArray).size (packL ({ data := #[] } : ByteArray).data.toList) = false := word_nil
  have w5 : wordM ({ data := #[81] } : ByteArray).size (packL ({ data := #[81] } : ByteArray).data.toList) = false := word_Q
  replace m3 := isBad_ok m3
  refine loop_ok (fun m tm hp nx => ∃ i, m = n1 - i ∧ i ≤ n1 ∧ nx ≤ 10 ∧ get2 tm 0 = .int .i64 (.ofNat (n1)) ∧ get2 tm 1 = .int .u8 (.ofNat c) ∧ get2 tm 5 = .ps i (repB 113 i) ∧ get2 tm 6 = .ps i (repB 55 i) ∧ get2 tm 7 = .int .i64 (.ofNat i) ∧ get2 tm 255 = .un) (m := n1) (by omega)
    ⟨0, rfl, by omega, by omega, rfl, rfl, rfl, rfl, rfl, rfl⟩ ?_
  rintro m tm hp nx ⟨i, rfl, hi, hnx, e0, e1, e5, e6, e7, e255⟩ k hk
  (obtain ⟨y0, y1, y2, y3, y4, y5, y6, y7, y8, y9, y10, y11, y12, y13, y14, y15⟩ := tm; obtain ⟨x0, x1, x2, x3, x4, x5, x6, x7, x8, x9, x10, x11, x12, x13, x14, x15⟩ := y0; obtain ⟨x16, x17, x18, x19, x20, x21, x22, x23, x24, x25, x26, x27, x28, x29, x30, x31⟩ := y1; obtain ⟨x32, x33, x34, x35, x36, x37, x38, x39, x40, x41, x42, x43, x44, x45, x46, x47⟩ := y2; obtain ⟨x48, x49, x50, x51, x52, x53, x54, x55, x56, x57, x58, x59, x60, x61, x62, x63⟩ := y3; obtain ⟨x64, x65, x66, x67, x68, x69, x70, x71, x72, x73, x74, x75, x76, x77, x78, x79⟩ := y4; obtain ⟨x80, x81, x82, x83, x84, x85, x86, x87, x88, x89, x90, x91, x92, x93, x94, x95⟩ := y5; obtain ⟨x96, x97, x98, x99, x100, x101, x102, x103, x104, x105, x106, x107, x108, x109, x110, x111⟩ := y6; obtain ⟨x112, x113, x114, x115, x116, x117, x118, x119, x120, x121, x122, x123, x124, x125, x126, x127⟩ := y7; obtain ⟨x128, x129, x130, x131, x132, x133, x134, x135, x136, x137, x138, x139, x140, x141, x142, x143⟩ := y8; obtain ⟨x144, x145, x146, x147, x148, x149, x150, x151, x152, x153, x154, x155, x156, x157, x158, x159⟩ := y9; obtain ⟨x160, x161, x162, x163, x164, x165, x166, x167, x168, x169, x170, x171, x172, x173, x174, x175⟩ := y10; obtain ⟨x176, x177, x178, x179, x180, x181, x182, x183, x184, x185, x186, x187, x188, x189, x190, x191⟩ := y11; obtain ⟨x192, x193, x194, x195, x196, x197, x198, x199, x200, x201, x202, x203, x204, x205, x206, x207⟩ := y12; obtain ⟨x208, x209, x210, x211, x212, x213, x214, x215, x216, x217, x218, x219, x220, x221, x222, x223⟩ := y13; obtain ⟨x224, x225, x226, x227, x228, x229, x230, x231, x232, x233, x234, x235, x236, x237, x238, x239⟩ := y14; obtain ⟨x240, x241, x242, x243, x244, x245, x246, x247, x248, x249, x250, x251, x252, x253, x254, x255⟩ := y15)
  cases e0
  cases e1
  cases e5
  cases e6
  cases e7
  cases e255
  rcases Nat.lt_or_ge i (n1) with hlt | hge
  · clear hT b5
    repeat' ((conv => lhs; whnf); first | ((conv => lhs; arg 1; whnf); refine valK_ok ?_) | refine forceB_ok ?_ | refine forceN_add ?_ | refine forceN_sub ?_ | refine forceN_suc ?_ | refine forceN_part ?_ | refine forceN_byte ?_ | refine forceN_ok ?_ | refine forceZ_add ?_ | refine forceZ_mul (by (try simp only [maxK]); omega) ?_ | refine forceZ_sub ?_ | refine forceZ_ok ?_ | refine rowAt_ok (byteRows_get (by (try simp only [maxK]); omega)) ?_ | (apply rowAt_ok; (focus assumption)) | refine br_true (Nat.beq_refl _) ?_ | refine br_true (by assumption) ?_ | refine br_false (by assumption) ?_ | refine br_max (by (try simp only [maxK]); omega) ?_ | refine br_ble_t (by (try simp only [maxK]); omega) ?_ | refine br_ble_f (by (try simp only [maxK]); omega) ?_ | refine br_beq_f (by (try simp only [maxK]); omega) ?_ | refine br_true (by simp only [Bool.and_eq_true, Nat.ble_eq]; (try simp only []); omega) ?_ | (refine br_ble (fun h => ?_) (fun h => ?_) <;> (try simp only [] at h)) | (refine br_beq (fun h => ?_) (fun h => ?_) <;> (try simp only [] at h)) | refine br_split (fun h => ?_) (fun h => ?_) | fail)
    all_goals (try (conv => lhs; whnf))
    all_goals first
    | exact hk _ _ _ _ (by omega) ⟨i + 1, rfl, by omega, by omega, rfl, rfl, rfl, rfl, rfl, rfl⟩
    | (exfalso; have h9 : 9223372036854775807 < i + 1 := h; omega)
  obtain rfl : n1 = i := by omega
  clear hk hge hi
  obtain ⟨l1, m4⟩ := isAny_ok (m1 hs9)
  clear m1 m2
  obtain ⟨d, hd, hd1⟩ : ∃ d, 16 - n1 + 1 = d ∧ d = 16 - n1 + 1 := ⟨_, rfl, rfl⟩
  rw [hd] at w1 w2
  have hdN : Nat.add (16 - n1) 1 = d := hd
  repeat' (first | ((conv => lhs; whnf); refine forceN_as d hdN ?_) | ((conv => lhs; whnf); refine forceN_as T3 hT3 ?_) | (first | (first | ((conv => lhs; whnf); first | ((conv => lhs; arg 1; whnf); refine valK_ok ?_) | refine forceB_ok ?_ | refine forceN_add ?_ | refine forceN_sub ?_ | refine forceN_suc ?_ | refine forceN_part ?_ | refine forceN_byte ?_ | refine forceN_ok ?_ | refine forceZ_add ?_ | refine forceZ_mul (by (try simp only [maxK]); omega) ?_ | refine forceZ_sub ?_ | refine forceZ_ok ?_ | refine rowAt_ok (byteRows_get (by (try simp only [maxK]); omega)) ?_ | (apply rowAt_ok; (focus assumption)) | refine br_true (Nat.beq_refl _) ?_ | refine br_true (by assumption) ?_ | refine br_false (by assumption) ?_ | refine br_max (by (try simp only [maxK]); omega) ?_ | refine br_ble_t (by (try simp only [maxK]); omega) ?_ | refine br_ble_f (by (try simp only [maxK]); omega) ?_ | refine br_beq_f (by (try simp only [maxK]); omega) ?_ | refine br_true (by simp only [Bool.and_eq_true, Nat.ble_eq]; (try simp only []); omega) ?_ | (refine br_ble (fun h => ?_) (fun h => ?_) <;> (try simp only [] at h)) | (refine br_beq (fun h => ?_) (fun h => ?_) <;> (try simp only [] at h)) | refine br_split (fun h => ?_) (fun h => ?_) | fail) | ((conv => lhs; whnf); first | refine acc4_upd_ok (by omega) ?_ | refine acc4_get_same (by omega) ?_ | refine acc4_get_other (by omega) (by omega) (by omega) ?_ | refine acc4_get_ok (by omega) (by assumption) ?_ | refine opt3_split (fun h => ?_) (fun kind num tl h => ?_) | refine int_split (fun a h => ?_) (fun a h => ?_) | fail)) | ((conv => lhs; whnf); first | (apply lex_ok; (focus assumption)) | (apply lex_bad; (focus assumption)) | refine lex_split (fun l h => ?_) (fun a b h => ?_) | refine askP_ok (.inl ⟨_, Nat.le_trans (toksF_le _ _ _ _ _ _ ‹toksF _ _ _ _ _ = LexR.ok _›) (by first | omega | exact Nat.le_trans (Nat.succ_le_succ (Nat.min_le_right _ _)) (by decide)), rfl⟩) ?_ | refine askP_ok (.inr rfl) ?_ | fail)))
  all_goals (try (conv => lhs; whnf))
  all_goals first | (exfalso; omega) | skip
  all_goals (
    refine loop_ok (fun m tm hp' nx' => ∃ i b, m = 18 - i ∧ i ≤ 18 ∧ nx' ≤ 40 ∧ (b || hasB (18 - i) (signsN / 256 ^ i) c) = signB c ∧ get2 tm 1 = .int .u8 (.ofNat c) ∧ get2 tm 17 = .ro 5 (lt.map Tok.row) ∧ get2 tm 20 = .int .i64 (.ofNat 0) ∧ get2 tm 21 = .bool false ∧ get2 tm 22 = .bool b ∧
      get2 tm 139 = .ro 1 (byteRows 18 signsN) ∧ get2 tm 140 = .int .i64 (.ofNat 18) ∧ get2 tm 141 = .int .i64 (.ofNat i) ∧ get2 tm 255 = .un) (m := 18) (by omega)
      ⟨0, false, rfl, by omega, by omega, b5, rfl, rfl, rfl, rfl, rfl, signRows, rfl, rfl, rfl⟩ ?_
    rintro m tm hp' nx' ⟨i, b, rfl, hi, hnx', hb, e1, e17, e20, e21, e22, e139, e140, e141, e255⟩ k hk
    (obtain ⟨y0, y1, y2, y3, y4, y5, y6, y7, y8, y9, y10, y11, y12, y13, y14, y15⟩ := tm; obtain ⟨x0, x1, x2, x3, x4, x5, x6, x7, x8, x9, x10, x11, x12, x13, x14, x15⟩ := y0; obtain ⟨x16, x17, x18, x19, x20, x21, x22, x23, x24, x25, x26, x27, x28, x29, x30, x31⟩ := y1; obtain ⟨x32, x33, x34, x35, x36, x37, x38, x39, x40, x41, x42, x43, x44, x45, x46, x47⟩ := y2; obtain ⟨x48, x49, x50, x51, x52, x53, x54, x55, x56, x57, x58, x59, x60, x61, x62, x63⟩ := y3; obtain ⟨x64, x65, x66, x67, x68, x69, x70, x71, x72, x73, x74, x75, x76, x77, x78, x79⟩ := y4; obtain ⟨x80, x81, x82, x83, x84, x85, x86, x87, x88, x89, x90, x91, x92, x93, x94, x95⟩ := y5; obtain ⟨x96, x97, x98, x99, x100, x101, x102, x103, x104, x105, x106, x107, x108, x109, x110, x111⟩ := y6; obtain ⟨x112, x113, x114, x115, x116, x117, x118, x119, x120, x121, x122, x123, x124, x125, x126, x127⟩ := y7; obtain ⟨x128, x129, x130, x131, x132, x133, x134, x135, x136, x137, x138, x139, x140, x141, x142, x143⟩ := y8; obtain ⟨x144, x145, x146, x147, x148, x149, x150, x151, x152, x153, x154, x155, x156, x157, x158, x159⟩ := y9; obtain ⟨x160, x161, x162, x163, x164, x165, x166, x167, x168, x169, x170, x171, x172, x173, x174, x175⟩ := y10; obtain ⟨x176, x177, x178, x179, x180, x181, x182, x183, x184, x185, x186, x187, x188, x189, x190, x191⟩ := y11; obtain ⟨x192, x193, x194, x195, x196, x197, x198, x199, x200, x201, x202, x203, x204, x205, x206, x207⟩ := y12; obtain ⟨x208, x209, x210, x211, x212, x213, x214, x215, x216, x217, x218, x219, x220, x221, x222, x223⟩ := y13; obtain ⟨x224, x225, x226, x227, x228, x229, x230, x231, x232, x233, x234, x235, x236, x237, x238, x239⟩ := y14; obtain ⟨x240, x241, x242, x243, x244, x245, x246, x247, x248, x249, x250, x251, x252, x253, x254, x255⟩ := y15)
    cases e1
    cases e17
    cases e20
    cases e21
    cases e22
    cases e139
    cases e140
    cases e141
    cases e255
    have hbl := byteRows_length 18 signsN
    clear w1 w2 w3 w4 w5 m3 m4 b5
    rcases Nat.lt_or_ge i 18 with hlt | hge
    · rw [hasB_step hlt] at hb
      cases b with
      | true =>
        repeat' ((conv => lhs; whnf); first | ((conv => lhs; arg 1; whnf); refine valK_ok ?_) | refine forceB_ok ?_ | refine forceN_add ?_ | refine forceN_sub ?_ | refine forceN_suc ?_ | refine forceN_part ?_ | refine forceN_byte ?_ | refine forceN_ok ?_ | refine forceZ_add ?_ | refine forceZ_mul (by (try simp only [maxK]); omega) ?_ | refine forceZ_sub ?_ | refine forceZ_ok ?_ | refine rowAt_ok (byteRows_get (by (try simp only [maxK]); omega)) ?_ | (apply rowAt_ok; (focus assumption)) | refine br_true (Nat.beq_refl _) ?_ | refine br_true (by assumption) ?_ | refine br_false (by assumption) ?_ | refine br_max (by (try simp only [maxK]); omega) ?_ | refine br_ble_t (by (try simp only [maxK]); omega) ?_ | refine br_ble_f (by (try simp only [maxK]); omega) ?_ | refine br_beq_f (by (try simp only [maxK]); omega) ?_ | refine br_true (by simp only [Bool.and_eq_true, Nat.ble_eq]; (try simp only []); omega) ?_ | (refine br_ble (fun h => ?_) (fun h => ?_) <;> (try simp only [] at h)) | (refine br_beq (fun h => ?_) (fun h => ?_) <;> (try simp only [] at h)) | refine br_split (fun h => ?_) (fun h => ?_) | fail)
        all_goals (try (conv => lhs; whnf))
        exact hk _ _ _ _ (by omega) ⟨i + 1, true, rfl, by omega, by omega, by rw [Bool.true_or] at hb ⊢; exact hb, rfl, rfl, rfl, rfl, rfl, rfl, rfl, rfl, rfl⟩
      | false =>
        cases hbq : Nat.beq (signsN / 256 ^ i % 256) c with
        | true =>
          rw [hbq] at hb
          have hbe := Nat.eq_of_beq_eq_true hbq
          have hbq2 : Nat.beq c (signsN / 256 ^ i % 256) = true := by rw [hbe]; exact Nat.beq_refl _
          repeat' ((conv => lhs; whnf); first | ((conv => lhs; arg 1; whnf); refine valK_ok ?_) | refine forceB_ok ?_ | refine forceN_add ?_ | refine forceN_sub ?_ | refine forceN_suc ?_ | refine forceN_part ?_ | refine forceN_byte ?_ | refine forceN_ok ?_ | refine forceZ_add ?_ | refine forceZ_mul (by (try simp only [maxK]); omega) ?_ | refine forceZ_sub ?_ | refine forceZ_ok ?_ | refine rowAt_ok (byteRows_get (by (try simp only [maxK]); omega)) ?_ | (apply rowAt_ok; (focus assumption)) | refine br_true (Nat.beq_refl _) ?_ | refine br_true (by assumption) ?_ | refine br_false (by assumption) ?_ | refine br_max (by (try simp only [maxK]); omega) ?_ | refine br_ble_t (by (try simp only [maxK]); omega) ?_ | refine br_ble_f (by (try simp only [maxK]); omega) ?_ | refine br_beq_f (by (try simp only [maxK]); omega) ?_ | refine br_true (by simp only [Bool.and_eq_true, Nat.ble_eq]; (try simp only []); omega) ?_ | (refine br_ble (fun h => ?_) (fun h => ?_) <;> (try simp only [] at h)) | (refine br_beq (fun h => ?_) (fun h => ?_) <;> (try simp only [] at h)) | refine br_split (fun h => ?_) (fun h => ?_) | fail)
          all_goals (try (conv => lhs; whnf))
          exact hk _ _ _ _ (by omega) ⟨i + 1, true, rfl, by omega, by omega, by rw [Bool.true_or]; exact hb, rfl, rfl, rfl, rfl, rfl, rfl, rfl, rfl, rfl⟩
        | false =>
          rw [hbq] at hb
          have hbe := beq_false_iff.mp hbq
          have hbq2 : Nat.beq c (signsN / 256 ^ i % 256) = false := beq_false_iff.mpr (Ne.symm hbe)
          repeat' ((conv => lhs; whnf); first | ((conv => lhs; arg 1; whnf); refine valK_ok ?_) | refine forceB_ok ?_ | refine forceN_add ?_ | refine forceN_sub ?_ | refine forceN_suc ?_ | refine forceN_part ?_ | refine forceN_byte ?_ | refine forceN_ok ?_ | refine forceZ_add ?_ | refine forceZ_mul (by (try simp only [maxK]); omega) ?_ | refine forceZ_sub ?_ | refine forceZ_ok ?_ | refine rowAt_ok (byteRows_get (by (try simp only [maxK]); omega)) ?_ | (apply rowAt_ok; (focus assumption)) | refine br_true (Nat.beq_refl _) ?_ | refine br_true (by assumption) ?_ | refine br_false (by assumption) ?_ | refine br_max (by (try simp only [maxK]); omega) ?_ | refine br_ble_t (by (try simp only [maxK]); omega) ?_ | refine br_ble_f (by (try simp only [maxK]); omega) ?_ | refine br_beq_f (by (try simp only [maxK]); omega) ?_ | refine br_true (by simp only [Bool.and_eq_true, Nat.ble_eq]; (try simp only []); omega) ?_ | (refine br_ble (fun h => ?_) (fun h => ?_) <;> (try simp only [] at h)) | (refine br_beq (fun h => ?_) (fun h => ?_) <;> (try simp only [] at h)) | refine br_split (fun h => ?_) (fun h => ?_) | fail)
          all_goals (try (conv => lhs; whnf))
          exact hk _ _ _ _ (by omega) ⟨i + 1, false, rfl, by omega, by omega, hb, rfl, rfl, rfl, rfl, rfl, rfl, rfl, rfl, rfl⟩
    · obtain rfl : i = 18 := by omega
      rw [Nat.sub_self, show hasB 0 (signsN / 256 ^ 18) c = false from rfl, Bool.or_false] at hb
      subst hb
      have hTb : Nat.beq (lt.map Tok.row).length 4 = true := by rw [List.length_map, hTl]; rfl
      repeat' ((conv => lhs; whnf); first | ((conv => lhs; arg 1; whnf); refine valK_ok ?_) | refine forceB_ok ?_ | refine forceN_add ?_ | refine forceN_sub ?_ | refine forceN_suc ?_ | refine forceN_part ?_ | refine forceN_byte ?_ | refine forceN_ok ?_ | refine forceZ_add ?_ | refine forceZ_mul (by (try simp only [maxK]); omega) ?_ | refine forceZ_sub ?_ | refine forceZ_ok ?_ | refine rowAt_ok (byteRows_get (by (try simp only [maxK]); omega)) ?_ | (apply rowAt_ok; (focus assumption)) | refine br_true (Nat.beq_refl _) ?_ | refine br_true (by assumption) ?_ | refine br_false (by assumption) ?_ | refine br_max (by (try simp only [maxK]); omega) ?_ | refine br_ble_t (by (try simp only [maxK]); omega) ?_ | refine br_ble_f (by (try simp only [maxK]); omega) ?_ | refine br_beq_f (by (try simp only [maxK]); omega) ?_ | refine br_true (by simp only [Bool.and_eq_true, Nat.ble_eq]; (try simp only []); omega) ?_ | (refine br_ble (fun h => ?_) (fun h => ?_) <;> (try simp only [] at h)) | (refine br_beq (fun h => ?_) (fun h => ?_) <;> (try simp only [] at h)) | refine br_split (fun h => ?_) (fun h => ?_) | fail)
      all_goals (try (conv => lhs; whnf))
      all_goals first | exact okIf_ok (frz_bool rfl) | (exfalso; omega))

set_option maxHeartbeats 8000000 in
theorem lexForms_lo_none_a (z : Int) (c : Nat) (hc : c < 256) (hs9 : withinN z 14 + 1 ≤ 9) (hcl : 123 ≤ c ∧ signB c = false) : Says ρ Tryd.prog 6 [.int .i64 z, .int .u8 (.ofNat c)] (.bool true) := by
  have hw := withinN_lt z (b := 14) (by omega) (by omega)
  refine says_run (call := over 14 ovWithin (over 15 ovWord (over 10 ovToks (over 13 ovWakes call0)))) follows globL_ok (over_ok ovWithin_ok (over_ok ovWord_ok (over_ok (ovToks_ok tokens_says) (over_ok ovWakes_ok call0_ok)))) (arg2 rfl rfl) ?_
  generalize hk : withinN z 14 = k0 at hw hs9
  repeat' (first | (first | ((conv => lhs; whnf); first | ((conv => lhs; arg 1; whnf); refine valK_ok ?_) | refine forceB_ok ?_ | refine forceN_add ?_ | refine forceN_sub ?_ | refine forceN_suc ?_ | refine forceN_part ?_ | refine forceN_byte ?_ | refine forceN_ok ?_ | refine forceZ_add ?_ | refine forceZ_mul (by (try simp only [maxK]); omega) ?_ | refine forceZ_sub ?_ | refine forceZ_ok ?_ | refine rowAt_ok (byteRows_get (by (try simp only [maxK]); omega)) ?_ | (apply rowAt_ok; (focus assumption)) | refine br_true (Nat.beq_refl _) ?_ | refine br_true (by assumption) ?_ | refine br_false (by assumption) ?_ | refine br_max (by (try simp only [maxK]); omega) ?_ | refine br_ble_t (by (try simp only [maxK]); omega) ?_ | refine br_ble_f (by (try simp only [maxK]); omega) ?_ | refine br_beq_f (by (try simp only [maxK]); omega) ?_ | refine br_true (by simp only [Bool.and_eq_true, Nat.ble_eq]; (try simp only []); omega) ?_ | (refine br_ble (fun h => ?_) (fun h => ?_) <;> (try simp only [] at h)) | (refine br_beq (fun h => ?_) (fun h => ?_) <;> (try simp only [] at h)) | refine br_split (fun h => ?_) (fun h => ?_) | fail) | ((conv => lhs; whnf); first | refine acc4_upd_ok (by omega) ?_ | refine acc4_get_same (by omega) ?_ | refine acc4_get_other (by omega) (by omega) (by omega) ?_ | refine acc4_get_ok (by omega) (by assumption) ?_ | refine opt3_split (fun h => ?_) (fun kind num tl h => ?_) | refine int_split (fun a h => ?_) (fun a h => ?_) | fail)) | ((conv => lhs; whnf); first | (apply lex_ok; (focus assumption)) | (apply lex_bad; (focus assumption)) | refine lex_split (fun l h => ?_) (fun a b h => ?_) | refine askP_ok (.inl ⟨_, Nat.le_trans (toksF_le _ _ _ _ _ _ ‹toksF _ _ _ _ _ = LexR.ok _›) (by first | omega | exact Nat.le_trans (Nat.succ_le_succ (Nat.min_le_right _ _)) (by decide)), rfl⟩) ?_ | refine askP_ok (.inr rfl) ?_ | fail))
  all_goals (try (conv => lhs; whnf))
  rw [hk]
  obtain ⟨n1, hn1, hlo, hhi⟩ : ∃ n1, k0 + 1 = n1 ∧ 1 ≤ n1 ∧ n1 ≤ 14 := ⟨k0 + 1, rfl, by omega, by omega⟩
  rw [hn1]
  rw [hn1] at hs9
  clear hn1 hk hw
  obtain ⟨w1, w2, w3⟩ := word_facts n1 (by omega) (by omega)
  obtain ⟨m1, m2, m3⟩ := num_facts n1 (by omega) (by omega)
  obtain ⟨b1, b2, b3, b4, b5⟩ := byte_facts c hc
  obtain ⟨c1, c3⟩ := hcl
  have hT := isAnyN_ok (b4 (by unfold plainP; omega) (by omega) c3)
  obtain ⟨bx, bx', hT⟩ := hT
  rw [← toks3] at hT
  obtain ⟨T3, hT3⟩ : ∃ T3, Nat.add (packL ({ data := #[97] } : ByteArray).data.toList + (c + Nat.mul 256 Nat.zero).mul (Nat.pow 256 ({ data := #[97] } : ByteArray).size)) ((packL ({ data := #[98] } : ByteArray).data.toList).mul (Nat.pow 256 (({ data := #[97] } : ByteArray).size + 1))) = T3 := ⟨_, rfl⟩
  rw [show packL ({ data := #[97] } : ByteArray).data.toList + (c + Nat.mul 256 Nat.zero).mul (Nat.pow 256 ({ data := #[97] } : ByteArray).size) + (packL ({ data := #[98] } : ByteArray).data.toList).mul (Nat.pow 256 (({ data := #[97] } : ByteArray).size + 1)) = T3 from hT3] at hT
  clear b1 b2 b3 b4
  have hs113 : ({ data := #[113] } : ByteArray).size = 1 := rfl
  have hs55 : ({ data := #[55] } : ByteArray).size = 1 := rfl
  have hs120 : ({ data := #[120] } : ByteArray).size = 1 := rfl
  have hs49 : ({ data := #[49] } : ByteArray).size = 1 := rfl
  have hs32 : ({ data := #[32] } : ByteArray).size = 1 := rfl
  have hs48 : ({ data := #[48] } : ByteArray).size = 1 := rfl
  have hs97 : ({ data := #[97] } : ByteArray).size = 1 := rfl
  have hs98 : ({ data := #[98] } : ByteArray).size = 1 := rfl
  have hs81 : ({ data := #[81] } : ByteArray).size = 1 := rfl
  have hsK : ({ data := #[95, 48, 49, 50, 51, 52, 53, 54, 55, 56, 57, 97, 98, 99, 100, 101, 102, 103, 104] } : ByteArray).size = 19 := rfl
  have w4 : wordM ({ data := #[] } : ByteArray).size (packL ({ data := #[] } : ByteArray).data.toList) = false := word_nil
  have w5 : wordM ({ data := #[81] } : ByteArray).size (packL ({ data := #[81] } : ByteArray).data.toList) = false := word_Q
  replace m3 := isBad_ok m3
  refine loop_ok (fun m tm hp nx => ∃ i, m = n1 - i ∧ i ≤ n1 ∧ nx ≤ 10 ∧ get2 tm 0 = .int .i64 (.ofNat (n1)) ∧ get2 tm 1 = .int .u8 (.ofNat c) ∧ get2 tm 5 = .ps i (repB 113 i) ∧ get2 tm 6 = .ps i (repB 55 i) ∧ get2 tm 7 = .int .i64 (.ofNat i) ∧ get2 tm 255 = .un) (m := n1) (by omega)
    ⟨0, rfl, by omega, by omega, rfl, rfl, rfl, rfl, rfl, rfl⟩ ?_
  rintro m tm hp nx ⟨i, rfl, hi, hnx, e0, e1, e5, e6, e7, e255⟩ k hk
  (obtain ⟨y0, y1, y2, y3, y4, y5, y6, y7, y8, y9, y10, y11, y12, y13, y14, y15⟩ := tm; obtain ⟨x0, x1, x2, x3, x4, x5, x6, x7, x8, x9, x10, x11, x12, x13, x14, x15⟩ := y0; obtain ⟨x16, x17, x18, x19, x20, x21, x22, x23, x24, x25, x26, x27, x28, x29, x30, x31⟩ := y1; obtain ⟨x32, x33, x34, x35, x36, x37, x38, x39, x40, x41, x42, x43, x44, x45, x46, x47⟩ := y2; obtain ⟨x48, x49, x50, x51, x52, x53, x54, x55, x56, x57, x58, x59, x60, x61, x62, x63⟩ := y3; obtain ⟨x64, x65, x66, x67, x68, x69, x70, x71, x72, x73, x74, x75, x76, x77, x78, x79⟩ := y4; obtain ⟨x80, x81, x82, x83, x84, x85, x86, x87, x88, x89, x90, x91, x92, x93, x94, x95⟩ := y5; obtain ⟨x96, x97, x98, x99, x100, x101, x102, x103, x104, x105, x106, x107, x108, x109, x110, x111⟩ := y6; obtain ⟨x112, x113, x114, x115, x116, x117, x118, x119, x120, x121, x122, x123, x124, x125, x126, x127⟩ := y7; obtain ⟨x128, x129, x130, x131, x132, x133, x134, x135, x136, x137, x138, x139, x140, x141, x142, x143⟩ := y8; obtain ⟨x144, x145, x146, x147, x148, x149, x150, x151, x152, x153, x154, x155, x156, x157, x158, x159⟩ := y9; obtain ⟨x160, x161, x162, x163, x164, x165, x166, x167, x168, x169, x170, x171, x172, x173, x174, x175⟩ := y10; obtain ⟨x176, x177, x178, x179, x180, x181, x182, x183, x184, x185, x186, x187, x188, x189, x190, x191⟩ := y11; obtain ⟨x192, x193, x194, x195, x196, x197, x198, x199, x200, x201, x202, x203, x204, x205, x206, x207⟩ := y12; obtain ⟨x208, x209, x210, x211, x212, x213, x214, x215, x216, x217, x218, x219, x220, x221, x222, x223⟩ := y13; obtain ⟨x224, x225, x226, x227, x228, x229, x230, x231, x232, x233, x234, x235, x236, x237, x238, x239⟩ := y14; obtain ⟨x240, x241, x242, x243, x244, x245, x246, x247, x248, x249, x250, x251, x252, x253, x254, x255⟩ := y15)
  cases e0
  cases e1
  cases e5
  cases e6
  cases e7
  cases e255
  rcases Nat.lt_or_ge i (n1) with hlt | hge
  · clear hT b5
    repeat' ((conv => lhs; whnf); first | ((conv => lhs; arg 1; whnf); refine valK_ok ?_) | refine forceB_ok ?_ | refine forceN_add ?_ | refine forceN_sub ?_ | refine forceN_suc ?_ | refine forceN_part ?_ | refine forceN_byte ?_ | refine forceN_ok ?_ | refine forceZ_add ?_ | refine forceZ_mul (by (try simp only [maxK]); omega) ?_ | refine forceZ_sub ?_ | refine forceZ_ok ?_ | refine rowAt_ok (byteRows_get (by (try simp only [maxK]); omega)) ?_ | (apply rowAt_ok; (focus assumption)) | refine br_true (Nat.beq_refl _) ?_ | refine br_true (by assumption) ?_ | refine br_false (by assumption) ?_ | refine br_max (by (try simp only [maxK]); omega) ?_ | refine br_ble_t (by (try simp only [maxK]); omega) ?_ | refine br_ble_f (by (try simp only [maxK]); omega) ?_ | refine br_beq_f (by (try simp only [maxK]); omega) ?_ | refine br_true (by simp only [Bool.and_eq_true, Nat.ble_eq]; (try simp only []); omega) ?_ | (refine br_ble (fun h => ?_) (fun h => ?_) <;> (try simp only [] at h)) | (refine br_beq (fun h => ?_) (fun h => ?_) <;> (try simp only [] at h)) | refine br_split (fun h => ?_) (fun h => ?_) | fail)
    all_goals (try (conv => lhs; whnf))
    all_goals first
    | exact hk _ _ _ _ (by omega) ⟨i + 1, rfl, by omega, by omega, rfl, rfl, rfl, rfl, rfl, rfl⟩
    | (exfalso; have h9 : 9223372036854775807 < i + 1 := h; omega)
  obtain rfl : n1 = i := by omega
  clear hk hge hi
  obtain ⟨l1, m4⟩ := isAny_ok (m1 hs9)
  clear m1 m2
  obtain ⟨d, hd, hd1⟩ : ∃ d, 16 - n1 + 1 = d ∧ d = 16 - n1 + 1 := ⟨_, rfl, rfl⟩
  rw [hd] at w1 w2
  have hdN : Nat.add (16 - n1) 1 = d := hd
  repeat' (first | ((conv => lhs; whnf); refine forceN_as d hdN ?_) | ((conv => lhs; whnf); refine forceN_as T3 hT3 ?_) | (first | (first | ((conv => lhs; whnf); first | ((conv => lhs; arg 1; whnf); refine valK_ok ?_) | refine forceB_ok ?_ | refine forceN_add ?_ | refine forceN_sub ?_ | refine forceN_suc ?_ | refine forceN_part ?_ | refine forceN_byte ?_ | refine forceN_ok ?_ | refine forceZ_add ?_ | refine forceZ_mul (by (try simp only [maxK]); omega) ?_ | refine forceZ_sub ?_ | refine forceZ_ok ?_ | refine rowAt_ok (byteRows_get (by (try simp only [maxK]); omega)) ?_ | (apply rowAt_ok; (focus assumption)) | refine br_true (Nat.beq_refl _) ?_ | refine br_true (by assumption) ?_ | refine br_false (by assumption) ?_ | refine br_max (by (try simp only [maxK]); omega) ?_ | refine br_ble_t (by (try simp only [maxK]); omega) ?_ | refine br_ble_f (by (try simp only [maxK]); omega) ?_ | refine br_beq_f (by (try simp only [maxK]); omega) ?_ | refine br_true (by simp only [Bool.and_eq_true, Nat.ble_eq]; (try simp only []); omega) ?_ | (refine br_ble (fun h => ?_) (fun h => ?_) <;> (try simp only [] at h)) | (refine br_beq (fun h => ?_) (fun h => ?_) <;> (try simp only [] at h)) | refine br_split (fun h => ?_) (fun h => ?_) | fail) | ((conv => lhs; whnf); first | refine acc4_upd_ok (by omega) ?_ | refine acc4_get_same (by omega) ?_ | refine acc4_get_other (by omega) (by omega) (by omega) ?_ | refine acc4_get_ok (by omega) (by assumption) ?_ | refine opt3_split (fun h => ?_) (fun kind num tl h => ?_) | refine int_split (fun a h => ?_) (fun a h => ?_) | fail)) | ((conv => lhs; whnf); first | (apply lex_ok; (focus assumption)) | (apply lex_bad; (focus assumption)) | refine lex_split (fun l h => ?_) (fun a b h => ?_) | refine askP_ok (.inl ⟨_, Nat.le_trans (toksF_le _ _ _ _ _ _ ‹toksF _ _ _ _ _ = LexR.ok _›) (by first | omega | exact Nat.le_trans (Nat.succ_le_succ (Nat.min_le_right _ _)) (by decide)), rfl⟩) ?_ | refine askP_ok (.inr rfl) ?_ | fail)))
  all_goals (try (conv => lhs; whnf))
  all_goals first | (exfalso; omega) | skip
  all_goals (
    refine loop_ok (fun m tm hp' nx' => ∃ i b, m = 18 - i ∧ i ≤ 18 ∧ nx' ≤ 40 ∧ (b || hasB (18 - i) (signsN / 256 ^ i) c) = signB c ∧ get2 tm 1 = .int .u8 (.ofNat c) ∧ get2 tm 17 = .sc (.slice none 0 0) ∧ get2 tm 20 = .int .i64 (.ofNat 2) ∧ get2 tm 21 = .bool false ∧ get2 tm 22 = .bool b ∧
      get2 tm 139 = .ro 1 (byteRows 18 signsN) ∧ get2 tm 140 = .int .i64 (.ofNat 18) ∧ get2 tm 141 = .int .i64 (.ofNat i) ∧ get2 tm 255 = .un) (m := 18) (by omega)
      ⟨0, false, rfl, by omega, by omega, b5, rfl, rfl, rfl, rfl, rfl, signRows, rfl, rfl, rfl⟩ ?_
    rintro m tm hp' nx' ⟨i, b, rfl, hi, hnx', hb, e1, e17, e20, e21, e22, e139, e140, e141, e255⟩ k hk
    (obtain ⟨y0, y1, y2, y3, y4, y5, y6, y7, y8, y9, y10, y11, y12, y13, y14, y15⟩ := tm; obtain ⟨x0, x1, x2, x3, x4, x5, x6, x7, x8, x9, x10, x11, x12, x13, x14, x15⟩ := y0; obtain ⟨x16, x17, x18, x19, x20, x21, x22, x23, x24, x25, x26, x27, x28, x29, x30, x31⟩ := y1; obtain ⟨x32, x33, x34, x35, x36, x37, x38, x39, x40, x41, x42, x43, x44, x45, x46, x47⟩ := y2; obtain ⟨x48, x49, x50, x51, x52, x53, x54, x55, x56, x57, x58, x59, x60, x61, x62, x63⟩ := y3; obtain ⟨x64, x65, x66, x67, x68, x69, x70, x71, x72, x73, x74, x75, x76, x77, x78, x79⟩ := y4; obtain ⟨x80, x81, x82, x83, x84, x85, x86, x87, x88, x89, x90, x91, x92, x93, x94, x95⟩ := y5; obtain ⟨x96, x97, x98, x99, x100, x101, x102, x103, x104, x105, x106, x107, x108, x109, x110, x111⟩ := y6; obtain ⟨x112, x113, x114, x115, x116, x117, x118, x119, x120, x121, x122, x123, x124, x125, x126, x127⟩ := y7; obtain ⟨x128, x129, x130, x131, x132, x133, x134, x135, x136, x137, x138, x139, x140, x141, x142, x143⟩ := y8; obtain ⟨x144, x145, x146, x147, x148, x149, x150, x151, x152, x153, x154, x155, x156, x157, x158, x159⟩ := y9; obtain ⟨x160, x161, x162, x163, x164, x165, x166, x167, x168, x169, x170, x171, x172, x173, x174, x175⟩ := y10; obtain ⟨x176, x177, x178, x179, x180, x181, x182, x183, x184, x185, x186, x187, x188, x189, x190, x191⟩ := y11; obtain ⟨x192, x193, x194, x195, x196, x197, x198, x199, x200, x201, x202, x203, x204, x205, x206, x207⟩ := y12; obtain ⟨x208, x209, x210, x211, x212, x213, x214, x215, x216, x217, x218, x219, x220, x221, x222, x223⟩ := y13; obtain ⟨x224, x225, x226, x227, x228, x229, x230, x231, x232, x233, x234, x235, x236, x237, x238, x239⟩ := y14; obtain ⟨x240, x241, x242, x243, x244, x245, x246, x247, x248, x249, x250, x251, x252, x253, x254, x255⟩ := y15)
    cases e1
    cases e17
    cases e20
    cases e21
    cases e22
    cases e139
    cases e140
    cases e141
    cases e255
    have hbl := byteRows_length 18 signsN
    clear w1 w2 w3 w4 w5 m3 m4 b5
    rcases Nat.lt_or_ge i 18 with hlt | hge
    · rw [hasB_step hlt] at hb
      cases b with
      | true =>
        repeat' ((conv => lhs; whnf); first | ((conv => lhs; arg 1; whnf); refine valK_ok ?_) | refine forceB_ok ?_ | refine forceN_add ?_ | refine forceN_sub ?_ | refine forceN_suc ?_ | refine forceN_part ?_ | refine forceN_byte ?_ | refine forceN_ok ?_ | refine forceZ_add ?_ | refine forceZ_mul (by (try simp only [maxK]); omega) ?_ | refine forceZ_sub ?_ | refine forceZ_ok ?_ | refine rowAt_ok (byteRows_get (by (try simp only [maxK]); omega)) ?_ | (apply rowAt_ok; (focus assumption)) | refine br_true (Nat.beq_refl _) ?_ | refine br_true (by assumption) ?_ | refine br_false (by assumption) ?_ | refine br_max (by (try simp only [maxK]); omega) ?_ | refine br_ble_t (by (try simp only [maxK]); omega) ?_ | refine br_ble_f (by (try simp only [maxK]); omega) ?_ | refine br_beq_f (by (try simp only [maxK]); omega) ?_ | refine br_true (by simp only [Bool.and_eq_true, Nat.ble_eq]; (try simp only []); omega) ?_ | (refine br_ble (fun h => ?_) (fun h => ?_) <;> (try simp only [] at h)) | (refine br_beq (fun h => ?_) (fun h => ?_) <;> (try simp only [] at h)) | refine br_split (fun h => ?_) (fun h => ?_) | fail)
        all_goals (try (conv => lhs; whnf))
        exact hk _ _ _ _ (by omega) ⟨i + 1, true, rfl, by omega, by omega, by rw [Bool.true_or] at hb ⊢; exact hb, rfl, rfl, rfl, rfl, rfl, rfl, rfl, rfl, rfl⟩
      | false =>
        cases hbq : Nat.beq (signsN / 256 ^ i % 256) c with
        | true =>
          rw [hbq] at hb
          have hbe := Nat.eq_of_beq_eq_true hbq
          have hbq2 : Nat.beq c (signsN / 256 ^ i % 256) = true := by rw [hbe]; exact Nat.beq_refl _
          repeat' ((conv => lhs; whnf); first | ((conv => lhs; arg 1; whnf); refine valK_ok ?_) | refine forceB_ok ?_ | refine forceN_add ?_ | refine forceN_sub ?_ | refine forceN_suc ?_ | refine forceN_part ?_ | refine forceN_byte ?_ | refine forceN_ok ?_ | refine forceZ_add ?_ | refine forceZ_mul (by (try simp only [maxK]); omega) ?_ | refine forceZ_sub ?_ | refine forceZ_ok ?_ | refine rowAt_ok (byteRows_get (by (try simp only [maxK]); omega)) ?_ | (apply rowAt_ok; (focus assumption)) | refine br_true (Nat.beq_refl _) ?_ | refine br_true (by assumption) ?_ | refine br_false (by assumption) ?_ | refine br_max (by (try simp only [maxK]); omega) ?_ | refine br_ble_t (by (try simp only [maxK]); omega) ?_ | refine br_ble_f (by (try simp only [maxK]); omega) ?_ | refine br_beq_f (by (try simp only [maxK]); omega) ?_ | refine br_true (by simp only [Bool.and_eq_true, Nat.ble_eq]; (try simp only []); omega) ?_ | (refine br_ble (fun h => ?_) (fun h => ?_) <;> (try simp only [] at h)) | (refine br_beq (fun h => ?_) (fun h => ?_) <;> (try simp only [] at h)) | refine br_split (fun h => ?_) (fun h => ?_) | fail)
          all_goals (try (conv => lhs; whnf))
          exact hk _ _ _ _ (by omega) ⟨i + 1, true, rfl, by omega, by omega, by rw [Bool.true_or]; exact hb, rfl, rfl, rfl, rfl, rfl, rfl, rfl, rfl, rfl⟩
        | false =>
          rw [hbq] at hb
          have hbe := beq_false_iff.mp hbq
          have hbq2 : Nat.beq c (signsN / 256 ^ i % 256) = false := beq_false_iff.mpr (Ne.symm hbe)
          repeat' ((conv => lhs; whnf); first | ((conv => lhs; arg 1; whnf); refine valK_ok ?_) | refine forceB_ok ?_ | refine forceN_add ?_ | refine forceN_sub ?_ | refine forceN_suc ?_ | refine forceN_part ?_ | refine forceN_byte ?_ | refine forceN_ok ?_ | refine forceZ_add ?_ | refine forceZ_mul (by (try simp only [maxK]); omega) ?_ | refine forceZ_sub ?_ | refine forceZ_ok ?_ | refine rowAt_ok (byteRows_get (by (try simp only [maxK]); omega)) ?_ | (apply rowAt_ok; (focus assumption)) | refine br_true (Nat.beq_refl _) ?_ | refine br_true (by assumption) ?_ | refine br_false (by assumption) ?_ | refine br_max (by (try simp only [maxK]); omega) ?_ | refine br_ble_t (by (try simp only [maxK]); omega) ?_ | refine br_ble_f (by (try simp only [maxK]); omega) ?_ | refine br_beq_f (by (try simp only [maxK]); omega) ?_ | refine br_true (by simp only [Bool.and_eq_true, Nat.ble_eq]; (try simp only []); omega) ?_ | (refine br_ble (fun h => ?_) (fun h => ?_) <;> (try simp only [] at h)) | (refine br_beq (fun h => ?_) (fun h => ?_) <;> (try simp only [] at h)) | refine br_split (fun h => ?_) (fun h => ?_) | fail)
          all_goals (try (conv => lhs; whnf))
          exact hk _ _ _ _ (by omega) ⟨i + 1, false, rfl, by omega, by omega, hb, rfl, rfl, rfl, rfl, rfl, rfl, rfl, rfl, rfl⟩
    · obtain rfl : i = 18 := by omega
      rw [Nat.sub_self, show hasB 0 (signsN / 256 ^ 18) c = false from rfl, Bool.or_false] at hb
      subst hb
      repeat' ((conv => lhs; whnf); first | ((conv => lhs; arg 1; whnf); refine valK_ok ?_) | refine forceB_ok ?_ | refine forceN_add ?_ | refine forceN_sub ?_ | refine forceN_suc ?_ | refine forceN_part ?_ | refine forceN_byte ?_ | refine forceN_ok ?_ | refine forceZ_add ?_ | refine forceZ_mul (by (try simp only [maxK]); omega) ?_ | refine forceZ_sub ?_ | refine forceZ_ok ?_ | refine rowAt_ok (byteRows_get (by (try simp only [maxK]); omega)) ?_ | (apply rowAt_ok; (focus assumption)) | refine br_true (Nat.beq_refl _) ?_ | refine br_true (by assumption) ?_ | refine br_false (by assumption) ?_ | refine br_max (by (try simp only [maxK]); omega) ?_ | refine br_ble_t (by (try simp only [maxK]); omega) ?_ | refine br_ble_f (by (try simp only [maxK]); omega) ?_ | refine br_beq_f (by (try simp only [maxK]); omega) ?_ | refine br_true (by simp only [Bool.and_eq_true, Nat.ble_eq]; (try simp only []); omega) ?_ | (refine br_ble (fun h => ?_) (fun h => ?_) <;> (try simp only [] at h)) | (refine br_beq (fun h => ?_) (fun h => ?_) <;> (try simp only [] at h)) | refine br_split (fun h => ?_) (fun h => ?_) | fail)
      all_goals (try (conv => lhs; whnf))
      all_goals first | exact okIf_ok (frz_bool rfl) | (exfalso; omega))

set_option maxHeartbeats 8000000 in
theorem lexForms_lo_none_b (z : Int) (c : Nat) (hc : c < 256) (hs9 : withinN z 14 + 1 ≤ 9) (hcl : (c < 48 ∧ c ≠ 35 ∧ c ≠ 32 ∧ c ≠ 9 ∧ c ≠ 10) ∧ signB c = false) : Says ρ Tryd.prog 6 [.int .i64 z, .int .u8 (.ofNat c)] (.bool true) := by
  have hw := withinN_lt z (b := 14) (by omega) (by omega)
  refine says_run (call := over 14 ovWithin (over 15 ovWord (over 10 ovToks (over 13 ovWakes call0)))) follows globL_ok (over_ok ovWithin_ok (over_ok ovWord_ok (over_ok (ovToks_ok tokens_says) (over_ok ovWakes_ok call0_ok)))) (arg2 rfl rfl) ?_
  generalize hk : withinN z 14 = k0 at hw hs9
  repeat' (first | (first | ((conv => lhs; whnf); first | ((conv => lhs; arg 1; whnf); refine valK_ok ?_) | refine forceB_ok ?_ | refine forceN_add ?_ | refine forceN_sub ?_ | refine forceN_suc ?_ | refine forceN_part ?_ | refine forceN_byte ?_ | refine forceN_ok ?_ | refine forceZ_add ?_ | refine forceZ_mul (by (try simp only [maxK]); omega) ?_ | refine forceZ_sub ?_ | refine forceZ_ok ?_ | refine rowAt_ok (byteRows_get (by (try simp only [maxK]); omega)) ?_ | (apply rowAt_ok; (focus assumption)) | refine br_true (Nat.beq_refl _) ?_ | refine br_true (by assumption) ?_ | refine br_false (by assumption) ?_ | refine br_max (by (try simp only [maxK]); omega) ?_ | refine br_ble_t (by (try simp only [maxK]); omega) ?_ | refine br_ble_f (by (try simp only [maxK]); omega) ?_ | refine br_beq_f (by (try simp only [maxK]); omega) ?_ | refine br_true (by simp only [Bool.and_eq_true, Nat.ble_eq]; (try simp only []); omega) ?_ | (refine br_ble (fun h => ?_) (fun h => ?_) <;> (try simp only [] at h)) | (refine br_beq (fun h => ?_) (fun h => ?_) <;> (try simp only [] at h)) | refine br_split (fun h => ?_) (fun h => ?_) | fail) | ((conv => lhs; whnf); first | refine acc4_upd_ok (by omega) ?_ | refine acc4_get_same (by omega) ?_ | refine acc4_get_other (by omega) (by omega) (by omega) ?_ | refine acc4_get_ok (by omega) (by assumption) ?_ | refine opt3_split (fun h => ?_) (fun kind num tl h => ?_) | refine int_split (fun a h => ?_) (fun a h => ?_) | fail)) | ((conv => lhs; whnf); first | (apply lex_ok; (focus assumption)) | (apply lex_bad; (focus assumption)) | refine lex_split (fun l h => ?_) (fun a b h => ?_) | refine askP_ok (.inl ⟨_, Nat.le_trans (toksF_le _ _ _ _ _ _ ‹toksF _ _ _ _ _ = LexR.ok _›) (by first | omega | exact Nat.le_trans (Nat.succ_le_succ (Nat.min_le_right _ _)) (by decide)), rfl⟩) ?_ | refine askP_ok (.inr rfl) ?_ | fail))
  all_goals (try (conv => lhs; whnf))
  rw [hk]
  obtain ⟨n1, hn1, hlo, hhi⟩ : ∃ n1, k0 + 1 = n1 ∧ 1 ≤ n1 ∧ n1 ≤ 14 := ⟨k0 + 1, rfl, by omega, by omega⟩
  rw [hn1]
  rw [hn1] at hs9
  clear hn1 hk hw
  obtain ⟨w1, w2, w3⟩ := word_facts n1 (by omega) (by omega)
  obtain ⟨m1, m2, m3⟩ := num_facts n1 (by omega) (by omega)
  obtain ⟨b1, b2, b3, b4, b5⟩ := byte_facts c hc
  obtain ⟨c1, c3⟩ := hcl
  have hT := isAnyN_ok (b4 (by unfold plainP; omega) (by omega) c3)
  obtain ⟨bx, bx', hT⟩ := hT
  rw [← toks3] at hT
  obtain ⟨T3, hT3⟩ : ∃ T3, Nat.add (packL ({ data := #[97] } : ByteArray).data.toList + (c + Nat.mul 256 Nat.zero).mul (Nat.pow 256 ({ data := #[97] } : ByteArray).size)) ((packL ({ data := #[98] } : ByteArray).data.toList).mul (Nat.pow 256 (({ data := #[97] } : ByteArray).size + 1))) = T3 := ⟨_, rfl⟩
  rw [show packL ({ data := #[97] } : ByteArray).data.toList + (c + Nat.mul 256 Nat.zero).mul (Nat.pow 256 ({ data := #[97] } : ByteArray).size) + (packL ({ data := #[98] } : ByteArray).data.toList).mul (Nat.pow 256 (({ data := #[97] } : ByteArray).size + 1)) = T3 from hT3] at hT
  clear b1 b2 b3 b4
  have hs113 : ({ data := #[113] } : ByteArray).size = 1 := rfl
  have hs55 : ({ data := #[55] } : ByteArray).size = 1 := rfl
  have hs120 : ({ data := #[120] } : ByteArray).size = 1 := rfl
  have hs49 : ({ data := #[49] } : ByteArray).size = 1 := rfl
  have hs32 : ({ data := #[32] } : ByteArray).size = 1 := rfl
  have hs48 : ({ data := #[48] } : ByteArray).size = 1 := rfl
  have hs97 : ({ data := #[97] } : ByteArray).size = 1 := rfl
  have hs98 : ({ data := #[98] } : ByteArray).size = 1 := rfl
  have hs81 : ({ data := #[81] } : ByteArray).size = 1 := rfl
  have hsK : ({ data := #[95, 48, 49, 50, 51, 52, 53, 54, 55, 56, 57, 97, 98, 99, 100, 101, 102, 103, 104] } : ByteArray).size = 19 := rfl
  have w4 : wordM ({ data := #[] } : ByteArray).size (packL ({ data := #[] } : ByteArray).data.toList) = false := word_nil
  have w5 : wordM ({ data := #[81] } : ByteArray).size (packL ({ data := #[81] } : ByteArray).data.toList) = false := word_Q
  replace m3 := isBad_ok m3
  refine loop_ok (fun m tm hp nx => ∃ i, m = n1 - i ∧ i ≤ n1 ∧ nx ≤ 10 ∧ get2 tm 0 = .int .i64 (.ofNat (n1)) ∧ get2 tm 1 = .int .u8 (.ofNat c) ∧ get2 tm 5 = .ps i (repB 113 i) ∧ get2 tm 6 = .ps i (repB 55 i) ∧ get2 tm 7 = .int .i64 (.ofNat i) ∧ get2 tm 255 = .un) (m := n1) (by omega)
    ⟨0, rfl, by omega, by omega, rfl, rfl, rfl, rfl, rfl, rfl⟩ ?_
  rintro m tm hp nx ⟨i, rfl, hi, hnx, e0, e1, e5, e6, e7, e255⟩ k hk
  (obtain ⟨y0, y1, y2, y3, y4, y5, y6, y7, y8, y9, y10, y11, y12, y13, y14, y15⟩ := tm; obtain ⟨x0, x1, x2, x3, x4, x5, x6, x7, x8, x9, x10, x11, x12, x13, x14, x15⟩ := y0; obtain ⟨x16, x17, x18, x19, x20, x21, x22, x23, x24, x25, x26, x27, x28, x29, x30, x31⟩ := y1; obtain ⟨x32, x33, x34, x35, x36, x37, x38, x39, x40, x41, x42, x43, x44, x45, x46, x47⟩ := y2; obtain ⟨x48, x49, x50, x51, x52, x53, x54, x55, x56, x57, x58, x59, x60, x61, x62, x63⟩ := y3; obtain ⟨x64, x65, x66, x67, x68, x69, x70, x71, x72, x73, x74, x75, x76, x77, x78, x79⟩ := y4; obtain ⟨x80, x81, x82, x83, x84, x85, x86, x87, x88, x89, x90, x91, x92, x93, x94, x95⟩ := y5; obtain ⟨x96, x97, x98, x99, x100, x101, x102, x103, x104, x105, x106, x107, x108, x109, x110, x111⟩ := y6; obtain ⟨x112, x113, x114, x115, x116, x117, x118, x119, x120, x121, x122, x123, x124, x125, x126, x127⟩ := y7; obtain ⟨x128, x129, x130, x131, x132, x133, x134, x135, x136, x137, x138, x139, x140, x141, x142, x143⟩ := y8; obtain ⟨x144, x145, x146, x147, x148, x149, x150, x151, x152, x153, x154, x155, x156, x157, x158, x159⟩ := y9; obtain ⟨x160, x161, x162, x163, x164, x165, x166, x167, x168, x169, x170, x171, x172, x173, x174, x175⟩ := y10; obtain ⟨x176, x177, x178, x179, x180, x181, x182, x183, x184, x185, x186, x187, x188, x189, x190, x191⟩ := y11; obtain ⟨x192, x193, x194, x195, x196, x197, x198, x199, x200, x201, x202, x203, x204, x205, x206, x207⟩ := y12; obtain ⟨x208, x209, x210, x211, x212, x213, x214, x215, x216, x217, x218, x219, x220, x221, x222, x223⟩ := y13; obtain ⟨x224, x225, x226, x227, x228, x229, x230, x231, x232, x233, x234, x235, x236, x237, x238, x239⟩ := y14; obtain ⟨x240, x241, x242, x243, x244, x245, x246, x247, x248, x249, x250, x251, x252, x253, x254, x255⟩ := y15)
  cases e0
  cases e1
  cases e5
  cases e6
  cases e7
  cases e255
  rcases Nat.lt_or_ge i (n1) with hlt | hge
  · clear hT b5
    repeat' ((conv => lhs; whnf); first | ((conv => lhs; arg 1; whnf); refine valK_ok ?_) | refine forceB_ok ?_ | refine forceN_add ?_ | refine forceN_sub ?_ | refine forceN_suc ?_ | refine forceN_part ?_ | refine forceN_byte ?_ | refine forceN_ok ?_ | refine forceZ_add ?_ | refine forceZ_mul (by (try simp only [maxK]); omega) ?_ | refine forceZ_sub ?_ | refine forceZ_ok ?_ | refine rowAt_ok (byteRows_get (by (try simp only [maxK]); omega)) ?_ | (apply rowAt_ok; (focus assumption)) | refine br_true (Nat.beq_refl _) ?_ | refine br_true (by assumption) ?_ | refine br_false (by assumption) ?_ | refine br_max (by (try simp only [maxK]); omega) ?_ | refine br_ble_t (by (try simp only [maxK]); omega) ?_ | refine br_ble_f (by (try simp only [maxK]); omega) ?_ | refine br_beq_f (by (try simp only [maxK]); omega) ?_ | refine br_true (by simp only [Bool.and_eq_true, Nat.ble_eq]; (try simp only []); omega) ?_ | (refine br_ble (fun h => ?_) (fun h => ?_) <;> (try simp only [] at h)) | (refine br_beq (fun h => ?_) (fun h => ?_) <;> (try simp only [] at h)) | refine br_split (fun h => ?_) (fun h => ?_) | fail)
    all_goals (try (conv => lhs; whnf))
    all_goals first
    | exact hk _ _ _ _ (by omega) ⟨i + 1, rfl, by omega, by omega, rfl, rfl, rfl, rfl, rfl, rfl⟩
    | (exfalso; have h9 : 9223372036854775807 < i + 1 := h; omega)
  obtain rfl : n1 = i := by omega
  clear hk hge hi
  obtain ⟨l1, m4⟩ := isAny_ok (m1 hs9)
  clear m1 m2
  obtain ⟨d, hd, hd1⟩ : ∃ d, 16 - n1 + 1 = d ∧ d = 16 - n1 + 1 := ⟨_, rfl, rfl⟩
  rw [hd] at w1 w2
  have hdN : Nat.add (16 - n1) 1 = d := hd
  repeat' (first | ((conv => lhs; whnf); refine forceN_as d hdN ?_) | ((conv => lhs; whnf); refine forceN_as T3 hT3 ?_) | (first | (first | ((conv => lhs; whnf); first | ((conv => lhs; arg 1; whnf); refine valK_ok ?_) | refine forceB_ok ?_ | refine forceN_add ?_ | refine forceN_sub ?_ | refine forceN_suc ?_ | refine forceN_part ?_ | refine forceN_byte ?_ | refine forceN_ok ?_ | refine forceZ_add ?_ | refine forceZ_mul (by (try simp only [maxK]); omega) ?_ | refine forceZ_sub ?_ | refine forceZ_ok ?_ | refine rowAt_ok (byteRows_get (by (try simp only [maxK]); omega)) ?_ | (apply rowAt_ok; (focus assumption)) | refine br_true (Nat.beq_refl _) ?_ | refine br_true (by assumption) ?_ | refine br_false (by assumption) ?_ | refine br_max (by (try simp only [maxK]); omega) ?_ | refine br_ble_t (by (try simp only [maxK]); omega) ?_ | refine br_ble_f (by (try simp only [maxK]); omega) ?_ | refine br_beq_f (by (try simp only [maxK]); omega) ?_ | refine br_true (by simp only [Bool.and_eq_true, Nat.ble_eq]; (try simp only []); omega) ?_ | (refine br_ble (fun h => ?_) (fun h => ?_) <;> (try simp only [] at h)) | (refine br_beq (fun h => ?_) (fun h => ?_) <;> (try simp only [] at h)) | refine br_split (fun h => ?_) (fun h => ?_) | fail) | ((conv => lhs; whnf); first | refine acc4_upd_ok (by omega) ?_ | refine acc4_get_same (by omega) ?_ | refine acc4_get_other (by omega) (by omega) (by omega) ?_ | refine acc4_get_ok (by omega) (by assumption) ?_ | refine opt3_split (fun h => ?_) (fun kind num tl h => ?_) | refine int_split (fun a h => ?_) (fun a h => ?_) | fail)) | ((conv => lhs; whnf); first | (apply lex_ok; (focus assumption)) | (apply lex_bad; (focus assumption)) | refine lex_split (fun l h => ?_) (fun a b h => ?_) | refine askP_ok (.inl ⟨_, Nat.le_trans (toksF_le _ _ _ _ _ _ ‹toksF _ _ _ _ _ = LexR.ok _›) (by first | omega | exact Nat.le_trans (Nat.succ_le_succ (Nat.min_le_right _ _)) (by decide)), rfl⟩) ?_ | refine askP_ok (.inr rfl) ?_ | fail)))
  all_goals (try (conv => lhs; whnf))
  all_goals first | (exfalso; omega) | skip
  all_goals (
    refine loop_ok (fun m tm hp' nx' => ∃ i b, m = 18 - i ∧ i ≤ 18 ∧ nx' ≤ 40 ∧ (b || hasB (18 - i) (signsN / 256 ^ i) c) = signB c ∧ get2 tm 1 = .int .u8 (.ofNat c) ∧ get2 tm 17 = .sc (.slice none 0 0) ∧ get2 tm 20 = .int .i64 (.ofNat 2) ∧ get2 tm 21 = .bool false ∧ get2 tm 22 = .bool b ∧
      get2 tm 139 = .ro 1 (byteRows 18 signsN) ∧ get2 tm 140 = .int .i64 (.ofNat 18) ∧ get2 tm 141 = .int .i64 (.ofNat i) ∧ get2 tm 255 = .un) (m := 18) (by omega)
      ⟨0, false, rfl, by omega, by omega, b5, rfl, rfl, rfl, rfl, rfl, signRows, rfl, rfl, rfl⟩ ?_
    rintro m tm hp' nx' ⟨i, b, rfl, hi, hnx', hb, e1, e17, e20, e21, e22, e139, e140, e141, e255⟩ k hk
    (obtain ⟨y0, y1, y2, y3, y4, y5, y6, y7, y8, y9, y10, y11, y12, y13, y14, y15⟩ := tm; obtain ⟨x0, x1, x2, x3, x4, x5, x6, x7, x8, x9, x10, x11, x12, x13, x14, x15⟩ := y0; obtain ⟨x16, x17, x18, x19, x20, x21, x22, x23, x24, x25, x26, x27, x28, x29, x30, x31⟩ := y1; obtain ⟨x32, x33, x34, x35, x36, x37, x38, x39, x40, x41, x42, x43, x44, x45, x46, x47⟩ := y2; obtain ⟨x48, x49, x50, x51, x52, x53, x54, x55, x56, x57, x58, x59, x60, x61, x62, x63⟩ := y3; obtain ⟨x64, x65, x66, x67, x68, x69, x70, x71, x72, x73, x74, x75, x76, x77, x78, x79⟩ := y4; obtain ⟨x80, x81, x82, x83, x84, x85, x86, x87, x88, x89, x90, x91, x92, x93, x94, x95⟩ := y5; obtain ⟨x96, x97, x98, x99, x100, x101, x102, x103, x104, x105, x106, x107, x108, x109, x110, x111⟩ := y6; obtain ⟨x112, x113, x114, x115, x116, x117, x118, x119, x120, x121, x122, x123, x124, x125, x126, x127⟩ := y7; obtain ⟨x128, x129, x130, x131, x132, x133, x134, x135, x136, x137, x138, x139, x140, x141, x142, x143⟩ := y8; obtain ⟨x144, x145, x146, x147, x148, x149, x150, x151, x152, x153, x154, x155, x156, x157, x158, x159⟩ := y9; obtain ⟨x160, x161, x162, x163, x164, x165, x166, x167, x168, x169, x170, x171, x172, x173, x174, x175⟩ := y10; obtain ⟨x176, x177, x178, x179, x180, x181, x182, x183, x184, x185, x186, x187, x188, x189, x190, x191⟩ := y11; obtain ⟨x192, x193, x194, x195, x196, x197, x198, x199, x200, x201, x202, x203, x204, x205, x206, x207⟩ := y12; obtain ⟨x208, x209, x210, x211, x212, x213, x214, x215, x216, x217, x218, x219, x220, x221, x222, x223⟩ := y13; obtain ⟨x224, x225, x226, x227, x228, x229, x230, x231, x232, x233, x234, x235, x236, x237, x238, x239⟩ := y14; obtain ⟨x240, x241, x242, x243, x244, x245, x246, x247, x248, x249, x250, x251, x252, x253, x254, x255⟩ := y15)
    cases e1
    cases e17
    cases e20
    cases e21
    cases e22
    cases e139
    cases e140
    cases e141
    cases e255
    have hbl := byteRows_length 18 signsN
    clear w1 w2 w3 w4 w5 m3 m4 b5
    rcases Nat.lt_or_ge i 18 with hlt | hge
    · rw [hasB_step hlt] at hb
      cases b with
      | true =>
        repeat' ((conv => lhs; whnf); first | ((conv => lhs; arg 1; whnf); refine valK_ok ?_) | refine forceB_ok ?_ | refine forceN_add ?_ | refine forceN_sub ?_ | refine forceN_suc ?_ | refine forceN_part ?_ | refine forceN_byte ?_ | refine forceN_ok ?_ | refine forceZ_add ?_ | refine forceZ_mul (by (try simp only [maxK]); omega) ?_ | refine forceZ_sub ?_ | refine forceZ_ok ?_ | refine rowAt_ok (byteRows_get (by (try simp only [maxK]); omega)) ?_ | (apply rowAt_ok; (focus assumption)) | refine br_true (Nat.beq_refl _) ?_ | refine br_true (by assumption) ?_ | refine br_false (by assumption) ?_ | refine br_max (by (try simp only [maxK]); omega) ?_ | refine br_ble_t (by (try simp only [maxK]); omega) ?_ | refine br_ble_f (by (try simp only [maxK]); omega) ?_ | refine br_beq_f (by (try simp only [maxK]); omega) ?_ | refine br_true (by simp only [Bool.and_eq_true, Nat.ble_eq]; (try simp only []); omega) ?_ | (refine br_ble (fun h => ?_) (fun h => ?_) <;> (try simp only [] at h)) | (refine br_beq (fun h => ?_) (fun h => ?_) <;> (try simp only [] at h)) | refine br_split (fun h => ?_) (fun h => ?_) | fail)
        all_goals (try (conv => lhs; whnf))
        exact hk _ _ _ _ (by omega) ⟨i + 1, true, rfl, by omega, by omega, by rw [Bool.true_or] at hb ⊢; exact hb, rfl, rfl, rfl, rfl, rfl, rfl, rfl, rfl, rfl⟩
      | false =>
        cases hbq : Nat.beq (signsN / 256 ^ i % 256) c with
        | true =>
          rw [hbq] at hb
          have hbe := Nat.eq_of_beq_eq_true hbq
          have hbq2 : Nat.beq c (signsN / 256 ^ i % 256) = true := by rw [hbe]; exact Nat.beq_refl _
          repeat' ((conv => lhs; whnf); first | ((conv => lhs; arg 1; whnf); refine valK_ok ?_) | refine forceB_ok ?_ | refine forceN_add ?_ | refine forceN_sub ?_ | refine forceN_suc ?_ | refine forceN_part ?_ | refine forceN_byte ?_ | refine forceN_ok ?_ | refine forceZ_add ?_ | refine forceZ_mul (by (try simp only [maxK]); omega) ?_ | refine forceZ_sub ?_ | refine forceZ_ok ?_ | refine rowAt_ok (byteRows_get (by (try simp only [maxK]); omega)) ?_ | (apply rowAt_ok; (focus assumption)) | refine br_true (Nat.beq_refl _) ?_ | refine br_true (by assumption) ?_ | refine br_false (by assumption) ?_ | refine br_max (by (try simp only [maxK]); omega) ?_ | refine br_ble_t (by (try simp only [maxK]); omega) ?_ | refine br_ble_f (by (try simp only [maxK]); omega) ?_ | refine br_beq_f (by (try simp only [maxK]); omega) ?_ | refine br_true (by simp only [Bool.and_eq_true, Nat.ble_eq]; (try simp only []); omega) ?_ | (refine br_ble (fun h => ?_) (fun h => ?_) <;> (try simp only [] at h)) | (refine br_beq (fun h => ?_) (fun h => ?_) <;> (try simp only [] at h)) | refine br_split (fun h => ?_) (fun h => ?_) | fail)
          all_goals (try (conv => lhs; whnf))
          exact hk _ _ _ _ (by omega) ⟨i + 1, true, rfl, by omega, by omega, by rw [Bool.true_or]; exact hb, rfl, rfl, rfl, rfl, rfl, rfl, rfl, rfl, rfl⟩
        | false =>
          rw [hbq] at hb
          have hbe := beq_false_iff.mp hbq
          have hbq2 : Nat.beq c (signsN / 256 ^ i % 256) = false := beq_false_iff.mpr (Ne.symm hbe)
          repeat' ((conv => lhs; whnf); first | ((conv => lhs; arg 1; whnf); refine valK_ok ?_) | refine forceB_ok ?_ | refine forceN_add ?_ | refine forceN_sub ?_ | refine forceN_suc ?_ | refine forceN_part ?_ | refine forceN_byte ?_ | refine forceN_ok ?_ | refine forceZ_add ?_ | refine forceZ_mul (by (try simp only [maxK]); omega) ?_ | refine forceZ_sub ?_ | refine forceZ_ok ?_ | refine rowAt_ok (byteRows_get (by (try simp only [maxK]); omega)) ?_ | (apply rowAt_ok; (focus assumption)) | refine br_true (Nat.beq_refl _) ?_ | refine br_true (by assumption) ?_ | refine br_false (by assumption) ?_ | refine br_max (by (try simp only [maxK]); omega) ?_ | refine br_ble_t (by (try simp only [maxK]); omega) ?_ | refine br_ble_f (by (try simp only [maxK]); omega) ?_ | refine br_beq_f (by (try simp only [maxK]); omega) ?_ | refine br_true (by simp only [Bool.and_eq_true, Nat.ble_eq]; (try simp only []); omega) ?_ | (refine br_ble (fun h => ?_) (fun h => ?_) <;> (try simp only [] at h)) | (refine br_beq (fun h => ?_) (fun h => ?_) <;> (try simp only [] at h)) | refine br_split (fun h => ?_) (fun h => ?_) | fail)
          all_goals (try (conv => lhs; whnf))
          exact hk _ _ _ _ (by omega) ⟨i + 1, false, rfl, by omega, by omega, hb, rfl, rfl, rfl, rfl, rfl, rfl, rfl, rfl, rfl⟩
    · obtain rfl : i = 18 := by omega
      rw [Nat.sub_self, show hasB 0 (signsN / 256 ^ 18) c = false from rfl, Bool.or_false] at hb
      subst hb
      repeat' ((conv => lhs; whnf); first | ((conv => lhs; arg 1; whnf); refine valK_ok ?_) | refine forceB_ok ?_ | refine forceN_add ?_ | refine forceN_sub ?_ | refine forceN_suc ?_ | refine forceN_part ?_ | refine forceN_byte ?_ | refine forceN_ok ?_ | refine forceZ_add ?_ | refine forceZ_mul (by (try simp only [maxK]); omega) ?_ | refine forceZ_sub ?_ | refine forceZ_ok ?_ | refine rowAt_ok (byteRows_get (by (try simp only [maxK]); omega)) ?_ | (apply rowAt_ok; (focus assumption)) | refine br_true (Nat.beq_refl _) ?_ | refine br_true (by assumption) ?_ | refine br_false (by assumption) ?_ | refine br_max (by (try simp only [maxK]); omega) ?_ | refine br_ble_t (by (try simp only [maxK]); omega) ?_ | refine br_ble_f (by (try simp only [maxK]); omega) ?_ | refine br_beq_f (by (try simp only [maxK]); omega) ?_ | refine br_true (by simp only [Bool.and_eq_true, Nat.ble_eq]; (try simp only []); omega) ?_ | (refine br_ble (fun h => ?_) (fun h => ?_) <;> (try simp only [] at h)) | (refine br_beq (fun h => ?_) (fun h => ?_) <;> (try simp only [] at h)) | refine br_split (fun h => ?_) (fun h => ?_) | fail)
      all_goals (try (conv => lhs; whnf))
      all_goals first | exact okIf_ok (frz_bool rfl) | (exfalso; omega))

set_option maxHeartbeats 8000000 in
theorem lexForms_lo_none_c (z : Int) (c : Nat) (hc : c < 256) (hs9 : withinN z 14 + 1 ≤ 9) (hcl : (58 ≤ c ∧ c ≤ 96 ∧ c ≠ 95) ∧ signB c = false) : Says ρ Tryd.prog 6 [.int .i64 z, .int .u8 (.ofNat c)] (.bool true) := by
  have hw := withinN_lt z (b := 14) (by omega) (by omega)
  refine says_run (call := over 14 ovWithin (over 15 ovWord (over 10 ovToks (over 13 ovWakes call0)))) follows globL_ok (over_ok ovWithin_ok (over_ok ovWord_ok (over_ok (ovToks_ok tokens_says) (over_ok ovWakes_ok call0_ok)))) (arg2 rfl rfl) ?_
  generalize hk : withinN z 14 = k0 at hw hs9
  repeat' (first | (first | ((conv => lhs; whnf); first | ((conv => lhs; arg 1; whnf); refine valK_ok ?_) | refine forceB_ok ?_ | refine forceN_add ?_ | refine forceN_sub ?_ | refine forceN_suc ?_ | refine forceN_part ?_ | refine forceN_byte ?_ | refine forceN_ok ?_ | refine forceZ_add ?_ | refine forceZ_mul (by (try simp only [maxK]); omega) ?_ | refine forceZ_sub ?_ | refine forceZ_ok ?_ | refine rowAt_ok (byteRows_get (by (try simp only [maxK]); omega)) ?_ | (apply rowAt_ok; (focus assumption)) | refine br_true (Nat.beq_refl _) ?_ | refine br_true (by assumption) ?_ | refine br_false (by assumption) ?_ | refine br_max (by (try simp only [maxK]); omega) ?_ | refine br_ble_t (by (try simp only [maxK]); omega) ?_ | refine br_ble_f (by (try simp only [maxK]); omega) ?_ | refine br_beq_f (by (try simp only [maxK]); omega) ?_ | refine br_true (by simp only [Bool.and_eq_true, Nat.ble_eq]; (try simp only []); omega) ?_ | (refine br_ble (fun h => ?_) (fun h => ?_) <;> (try simp only [] at h)) | (refine br_beq (fun h => ?_) (fun h => ?_) <;> (try simp only [] at h)) | refine br_split (fun h => ?_) (fun h => ?_) | fail) | ((conv => lhs; whnf); first | refine acc4_upd_ok (by omega) ?_ | refine acc4_get_same (by omega) ?_ | refine acc4_get_other (by omega) (by omega) (by omega) ?_ | refine acc4_get_ok (by omega) (by assumption) ?_ | refine opt3_split (fun h => ?_) (fun kind num tl h => ?_) | refine int_split (fun a h => ?_) (fun a h => ?_) | fail)) | ((conv => lhs; whnf); first | (apply lex_ok; (focus assumption)) | (apply lex_bad; (focus assumption)) | refine lex_split (fun l h => ?_) (fun a b h => ?_) | refine askP_ok (.inl ⟨_, Nat.le_trans (toksF_le _ _ _ _ _ _ ‹toksF _ _ _ _ _ = LexR.ok _›) (by first | omega | exact Nat.le_trans (Nat.succ_le_succ (Nat.min_le_right _ _)) (by decide)), rfl⟩) ?_ | refine askP_ok (.inr rfl) ?_ | fail))
  all_goals (try (conv => lhs; whnf))
  rw [hk]
  obtain ⟨n1, hn1, hlo, hhi⟩ : ∃ n1, k0 + 1 = n1 ∧ 1 ≤ n1 ∧ n1 ≤ 14 := ⟨k0 + 1, rfl, by omega, by omega⟩
  rw [hn1]
  rw [hn1] at hs9
  clear hn1 hk hw
  obtain ⟨w1, w2, w3⟩ := word_facts n1 (by omega) (by omega)
  obtain ⟨m1, m2, m3⟩ := num_facts n1 (by omega) (by omega)
  obtain ⟨b1, b2, b3, b4, b5⟩ := byte_facts c hc
  obtain ⟨c1, c3⟩ := hcl
  have hT := isAnyN_ok (b4 (by unfold plainP; omega) (by omega) c3)
  obtain ⟨bx, bx', hT⟩ := hT
  rw [← toks3] at hT
  obtain ⟨T3, hT3⟩ : ∃ T3, Nat.add (packL ({ data := #[97] } : ByteArray).data.toList + (c + Nat.mul 256 Nat.zero).mul (Nat.pow 256 ({ data := #[97] } : ByteArray).size)) ((packL ({ data := #[98] } : ByteArray).data.toList).mul (Nat.pow 256 (({ data := #[97] } : ByteArray).size + 1))) = T3 := ⟨_, rfl⟩
  rw [show packL ({ data := #[97] } : ByteArray).data.toList + (c + Nat.mul 256 Nat.zero).mul (Nat.pow 256 ({ data := #[97] } : ByteArray).size) + (packL ({ data := #[98] } : ByteArray).data.toList).mul (Nat.pow 256 (({ data := #[97] } : ByteArray).size + 1)) = T3 from hT3] at hT
  clear b1 b2 b3 b4
  have hs113 : ({ data := #[113] } : ByteArray).size = 1 := rfl
  have hs55 : ({ data := #[55] } : ByteArray).size = 1 := rfl
  have hs120 : ({ data := #[120] } : ByteArray).size = 1 := rfl
  have hs49 : ({ data := #[49] } : ByteArray).size = 1 := rfl
  have hs32 : ({ data := #[32] } : ByteArray).size = 1 := rfl
  have hs48 : ({ data := #[48] } : ByteArray).size = 1 := rfl
  have hs97 : ({ data := #[97] } : ByteArray).size = 1 := rfl
  have hs98 : ({ data := #[98] } : ByteArray).size = 1 := rfl
  have hs81 : ({ data := #[81] } : ByteArray).size = 1 := rfl
  have hsK : ({ data := #[95, 48, 49, 50, 51, 52, 53, 54, 55, 56, 57, 97, 98, 99, 100, 101, 102, 103, 104] } : ByteArray).size = 19 := rfl
  have w4 : wordM ({ data := #[] } : ByteArray).size (packL ({ data := #[] } : ByteArray).data.toList) = false := word_nil
  have w5 : wordM ({ data := #[81] } : ByteArray).size (packL ({ data := #[81] } : ByteArray).data.toList) = false := word_Q
  replace m3 := isBad_ok m3
  refine loop_ok (fun m tm hp nx => ∃ i, m = n1 - i ∧ i ≤ n1 ∧ nx ≤ 10 ∧ get2 tm 0 = .int .i64 (.ofNat (n1)) ∧ get2 tm 1 = .int .u8 (.ofNat c) ∧ get2 tm 5 = .ps i (repB 113 i) ∧ get2 tm 6 = .ps i (repB 55 i) ∧ get2 tm 7 = .int .i64 (.ofNat i) ∧ get2 tm 255 = .un) (m := n1) (by omega)
    ⟨0, rfl, by omega, by omega, rfl, rfl, rfl, rfl, rfl, rfl⟩ ?_
  rintro m tm hp nx ⟨i, rfl, hi, hnx, e0, e1, e5, e6, e7, e255⟩ k hk
  (obtain ⟨y0, y1, y2, y3, y4, y5, y6, y7, y8, y9, y10, y11, y12, y13, y14, y15⟩ := tm; obtain ⟨x0, x1, x2, x3, x4, x5, x6, x7, x8, x9, x10, x11, x12, x13, x14, x15⟩ := y0; obtain ⟨x16, x17, x18, x19, x20, x21, x22, x23, x24, x25, x26, x27, x28, x29, x30, x31⟩ := y1; obtain ⟨x32, x33, x34, x35, x36, x37, x38, x39, x40, x41, x42, x43, x44, x45, x46, x47⟩ := y2; obtain ⟨x48, x49, x50, x51, x52, x53, x54, x55, x56, x57, x58, x59, x60, x61, x62, x63⟩ := y3; obtain ⟨x64, x65, x66, x67, x68, x69, x70, x71, x72, x73, x74, x75, x76, x77, x78, x79⟩ := y4; obtain ⟨x80, x81, x82, x83, x84, x85, x86, x87, x88, x89, x90, x91, x92, x93, x94, x95⟩ := y5; obtain ⟨x96, x97, x98, x99, x100, x101, x102, x103, x104, x105, x106, x107, x108, x109, x110, x111⟩ := y6; obtain ⟨x112, x113, x114, x115, x116, x117, x118, x119, x120, x121, x122, x123, x124, x125, x126, x127⟩ := y7; obtain ⟨x128, x129, x130, x131, x132, x133, x134, x135, x136, x137, x138, x139, x140, x141, x142, x143⟩ := y8; obtain ⟨x144, x145, x146, x147, x148, x149, x150, x151, x152, x153, x154, x155, x156, x157, x158, x159⟩ := y9; obtain ⟨x160, x161, x162, x163, x164, x165, x166, x167, x168, x169, x170, x171, x172, x173, x174, x175⟩ := y10; obtain ⟨x176, x177, x178, x179, x180, x181, x182, x183, x184, x185, x186, x187, x188, x189, x190, x191⟩ := y11; obtain ⟨x192, x193, x194, x195, x196, x197, x198, x199, x200, x201, x202, x203, x204, x205, x206, x207⟩ := y12; obtain ⟨x208, x209, x210, x211, x212, x213, x214, x215, x216, x217, x218, x219, x220, x221, x222, x223⟩ := y13; obtain ⟨x224, x225, x226, x227, x228, x229, x230, x231, x232, x233, x234, x235, x236, x237, x238, x239⟩ := y14; obtain ⟨x240, x241, x242, x243, x244, x245, x246, x247, x248, x249, x250, x251, x252, x253, x254, x255⟩ := y15)
  cases e0
  cases e1
  cases e5
  cases e6
  cases e7
  cases e255
  rcases Nat.lt_or_ge i (n1) with hlt | hge
  · clear hT b5
    repeat' ((conv => lhs; whnf); first | ((conv => lhs; arg 1; whnf); refine valK_ok ?_) | refine forceB_ok ?_ | refine forceN_add ?_ | refine forceN_sub ?_ | refine forceN_suc ?_ | refine forceN_part ?_ | refine forceN_byte ?_ | refine forceN_ok ?_ | refine forceZ_add ?_ | refine forceZ_mul (by (try simp only [maxK]); omega) ?_ | refine forceZ_sub ?_ | refine forceZ_ok ?_ | refine rowAt_ok (byteRows_get (by (try simp only [maxK]); omega)) ?_ | (apply rowAt_ok; (focus assumption)) | refine br_true (Nat.beq_refl _) ?_ | refine br_true (by assumption) ?_ | refine br_false (by assumption) ?_ | refine br_max (by (try simp only [maxK]); omega) ?_ | refine br_ble_t (by (try simp only [maxK]); omega) ?_ | refine br_ble_f (by (try simp only [maxK]); omega) ?_ | refine br_beq_f (by (try simp only [maxK]); omega) ?_ | refine br_true (by simp only [Bool.and_eq_true, Nat.ble_eq]; (try simp only []); omega) ?_ | (refine br_ble (fun h => ?_) (fun h => ?_) <;> (try simp only [] at h)) | (refine br_beq (fun h => ?_) (fun h => ?_) <;> (try simp only [] at h)) | refine br_split (fun h => ?_) (fun h => ?_) | fail)
    all_goals (try (conv => lhs; whnf))
    all_goals first
    | exact hk _ _ _ _ (by omega) ⟨i + 1, rfl, by omega, by omega, rfl, rfl, rfl, rfl, rfl, rfl⟩
    | (exfalso; have h9 : 9223372036854775807 < i + 1 := h; omega)
  obtain rfl : n1 = i := by omega
  clear hk hge hi
  obtain ⟨l1, m4⟩ := isAny_ok (m1 hs9)
  clear m1 m2
  obtain ⟨d, hd, hd1⟩ : ∃ d, 16 - n1 + 1 = d ∧ d = 16 - n1 + 1 := ⟨_, rfl, rfl⟩
  rw [hd] at w1 w2
  have hdN : Nat.add (16 - n1) 1 = d := hd
  repeat' (first | ((conv => lhs; whnf); refine forceN_as d hdN ?_) | ((conv => lhs; whnf); refine forceN_as T3 hT3 ?_) | (first | (first | ((conv => lhs; whnf); first | ((conv => lhs; arg 1; whnf); refine valK_ok ?_) | refine forceB_ok ?_ | refine forceN_add ?_ | refine forceN_sub ?_ | refine forceN_suc ?_ | refine forceN_part ?_ | refine forceN_byte ?_ | refine forceN_ok ?_ | refine forceZ_add ?_ | refine forceZ_mul (by (try simp only [maxK]); omega) ?_ | refine forceZ_sub ?_ | refine forceZ_ok ?_ | refine rowAt_ok (byteRows_get (by (try simp only [maxK]); omega)) ?_ | (apply rowAt_ok; (focus assumption)) | refine br_true (Nat.beq_refl _) ?_ | refine br_true (by assumption) ?_ | refine br_false (by assumption) ?_ | refine br_max (by (try simp only [maxK]); omega) ?_ | refine br_ble_t (by (try simp only [maxK]); omega) ?_ | refine br_ble_f (by (try simp only [maxK]); omega) ?_ | refine br_beq_f (by (try simp only [maxK]); omega) ?_ | refine br_true (by simp only [Bool.and_eq_true, Nat.ble_eq]; (try simp only []); omega) ?_ | (refine br_ble (fun h => ?_) (fun h => ?_) <;> (try simp only [] at h)) | (refine br_beq (fun h => ?_) (fun h => ?_) <;> (try simp only [] at h)) | refine br_split (fun h => ?_) (fun h => ?_) | fail) | ((conv => lhs; whnf); first | refine acc4_upd_ok (by omega) ?_ | refine acc4_get_same (by omega) ?_ | refine acc4_get_other (by omega) (by omega) (by omega) ?_ | refine acc4_get_ok (by omega) (by assumption) ?_ | refine opt3_split (fun h => ?_) (fun kind num tl h => ?_) | refine int_split (fun a h => ?_) (fun a h => ?_) | fail)) | ((conv => lhs; whnf); first | (apply lex_ok; (focus assumption)) | (apply lex_bad; (focus assumption)) | refine lex_split (fun l h => ?_) (fun a b h => ?_) | refine askP_ok (.inl ⟨_, Nat.le_trans (toksF_le _ _ _ _ _ _ ‹toksF _ _ _ _ _ = LexR.ok _›) (by first | omega | exact Nat.le_trans (Nat.succ_le_succ (Nat.min_le_right _ _)) (by decide)), rfl⟩) ?_ | refine askP_ok (.inr rfl) ?_ | fail)))
  all_goals (try (conv => lhs; whnf))
  all_goals first | (exfalso; omega) | skip
  all_goals (
    refine loop_ok (fun m tm hp' nx' => ∃ i b, m = 18 - i ∧ i ≤ 18 ∧ nx' ≤ 40 ∧ (b || hasB (18 - i) (signsN / 256 ^ i) c) = signB c ∧ get2 tm 1 = .int .u8 (.ofNat c) ∧ get2 tm 17 = .sc (.slice none 0 0) ∧ get2 tm 20 = .int .i64 (.ofNat 2) ∧ get2 tm 21 = .bool false ∧ get2 tm 22 = .bool b ∧
      get2 tm 139 = .ro 1 (byteRows 18 signsN) ∧ get2 tm 140 = .int .i64 (.ofNat 18) ∧ get2 tm 141 = .int .i64 (.ofNat i) ∧ get2 tm 255 = .un) (m := 18) (by omega)
      ⟨0, false, rfl, by omega, by omega, b5, rfl, rfl, rfl, rfl, rfl, signRows, rfl, rfl, rfl⟩ ?_
    rintro m tm hp' nx' ⟨i, b, rfl, hi, hnx', hb, e1, e17, e20, e21, e22, e139, e140, e141, e255⟩ k hk
    (obtain ⟨y0, y1, y2, y3, y4, y5, y6, y7, y8, y9, y10, y11, y12, y13, y14, y15⟩ := tm; obtain ⟨x0, x1, x2, x3, x4, x5, x6, x7, x8, x9, x10, x11, x12, x13, x14, x15⟩ := y0; obtain ⟨x16, x17, x18, x19, x20, x21, x22, x23, x24, x25, x26, x27, x28, x29, x30, x31⟩ := y1; obtain ⟨x32, x33, x34, x35, x36, x37, x38, x39, x40, x41, x42, x43, x44, x45, x46, x47⟩ := y2; obtain ⟨x48, x49, x50, x51, x52, x53, x54, x55, x56, x57, x58, x59, x60, x61, x62, x63⟩ := y3; obtain ⟨x64, x65, x66, x67, x68, x69, x70, x71, x72, x73, x74, x75, x76, x77, x78, x79⟩ := y4; obtain ⟨x80, x81, x82, x83, x84, x85, x86, x87, x88, x89, x90, x91, x92, x93, x94, x95⟩ := y5; obtain ⟨x96, x97, x98, x99, x100, x101, x102, x103, x104, x105, x106, x107, x108, x109, x110, x111⟩ := y6; obtain ⟨x112, x113, x114, x115, x116, x117, x118, x119, x120, x121, x122, x123, x124, x125, x126, x127⟩ := y7; obtain ⟨x128, x129, x130, x131, x132, x133, x134, x135, x136, x137, x138, x139, x140, x141, x142, x143⟩ := y8; obtain ⟨x144, x145, x146, x147, x148, x149, x150, x151, x152, x153, x154, x155, x156, x157, x158, x159⟩ := y9; obtain ⟨x160, x161, x162, x163, x164, x165, x166, x167, x168, x169, x170, x171, x172, x173, x174, x175⟩ := y10; obtain ⟨x176, x177, x178, x179, x180, x181, x182, x183, x184, x185, x186, x187, x188, x189, x190, x191⟩ := y11; obtain ⟨x192, x193, x194, x195, x196, x197, x198, x199, x200, x201, x202, x203, x204, x205, x206, x207⟩ := y12; obtain ⟨x208, x209, x210, x211, x212, x213, x214, x215, x216, x217, x218, x219, x220, x221, x222, x223⟩ := y13; obtain ⟨x224, x225, x226, x227, x228, x229, x230, x231, x232, x233, x234, x235, x236, x237, x238, x239⟩ := y14; obtain ⟨x240, x241, x242, x243, x244, x245, x246, x247, x248, x249, x250, x251, x252, x253, x254, x255⟩ := y15)
    cases e1
    cases e17
    cases e20
    cases e21
    cases e22
    cases e139
    cases e140
    cases e141
    cases e255
    have hbl := byteRows_length 18 signsN
    clear w1 w2 w3 w4 w5 m3 m4 b5
    rcases Nat.lt_or_ge i 18 with hlt | hge
    · rw [hasB_step hlt] at hb
      cases b with
      | true =>
        repeat' ((conv => lhs; whnf); first | ((conv => lhs; arg 1; whnf); refine valK_ok ?_) | refine forceB_ok ?_ | refine forceN_add ?_ | refine forceN_sub ?_ | refine forceN_suc ?_ | refine forceN_part ?_ | refine forceN_byte ?_ | refine forceN_ok ?_ | refine forceZ_add ?_ | refine forceZ_mul (by (try simp only [maxK]); omega) ?_ | refine forceZ_sub ?_ | refine forceZ_ok ?_ | refine rowAt_ok (byteRows_get (by (try simp only [maxK]); omega)) ?_ | (apply rowAt_ok; (focus assumption)) | refine br_true (Nat.beq_refl _) ?_ | refine br_true (by assumption) ?_ | refine br_false (by assumption) ?_ | refine br_max (by (try simp only [maxK]); omega) ?_ | refine br_ble_t (by (try simp only [maxK]); omega) ?_ | refine br_ble_f (by (try simp only [maxK]); omega) ?_ | refine br_beq_f (by (try simp only [maxK]); omega) ?_ | refine br_true (by simp only [Bool.and_eq_true, Nat.ble_eq]; (try simp only []); omega) ?_ | (refine br_ble (fun h => ?_) (fun h => ?_) <;> (try simp only [] at h)) | (refine br_beq (fun h => ?_) (fun h => ?_) <;> (try simp only [] at h)) | refine br_split (fun h => ?_) (fun h => ?_) | fail)
        all_goals (try (conv => lhs; whnf))
        exact hk _ _ _ _ (by omega) ⟨i + 1, true, rfl, by omega, by omega, by rw [Bool.true_or] at hb ⊢; exact hb, rfl, rfl, rfl, rfl, rfl, rfl, rfl, rfl, rfl⟩
      | false =>
        cases hbq : Nat.beq (signsN / 256 ^ i % 256) c with
        | true =>
          rw [hbq] at hb
          have hbe := Nat.eq_of_beq_eq_true hbq
          have hbq2 : Nat.beq c (signsN / 256 ^ i % 256) = true := by rw [hbe]; exact Nat.beq_refl _
          repeat' ((conv => lhs; whnf); first | ((conv => lhs; arg 1; whnf); refine valK_ok ?_) | refine forceB_ok ?_ | refine forceN_add ?_ | refine forceN_sub ?_ | refine forceN_suc ?_ | refine forceN_part ?_ | refine forceN_byte ?_ | refine forceN_ok ?_ | refine forceZ_add ?_ | refine forceZ_mul (by (try simp only [maxK]); omega) ?_ | refine forceZ_sub ?_ | refine forceZ_ok ?_ | refine rowAt_ok (byteRows_get (by (try simp only [maxK]); omega)) ?_ | (apply rowAt_ok; (focus assumption)) | refine br_true (Nat.beq_refl _) ?_ | refine br_true (by assumption) ?_ | refine br_false (by assumption) ?_ | refine br_max (by (try simp only [maxK]); omega) ?_ | refine br_ble_t (by (try simp only [maxK]); omega) ?_ | refine br_ble_f (by (try simp only [maxK]); omega) ?_ | refine br_beq_f (by (try simp only [maxK]); omega) ?_ | refine br_true (by simp only [Bool.and_eq_true, Nat.ble_eq]; (try simp only []); omega) ?_ | (refine br_ble (fun h => ?_) (fun h => ?_) <;> (try simp only [] at h)) | (refine br_beq (fun h => ?_) (fun h => ?_) <;> (try simp only [] at h)) | refine br_split (fun h => ?_) (fun h => ?_) | fail)
          all_goals (try (conv => lhs; whnf))
          exact hk _ _ _ _ (by omega) ⟨i + 1, true, rfl, by omega, by omega, by rw [Bool.true_or]; exact hb, rfl, rfl, rfl, rfl, rfl, rfl, rfl, rfl, rfl⟩
        | false =>
          rw [hbq] at hb
          have hbe := beq_false_iff.mp hbq
          have hbq2 : Nat.beq c (signsN / 256 ^ i % 256) = false := beq_false_iff.mpr (Ne.symm hbe)
          repeat' ((conv => lhs; whnf); first | ((conv => lhs; arg 1; whnf); refine valK_ok ?_) | refine forceB_ok ?_ | refine forceN_add ?_ | refine forceN_sub ?_ | refine forceN_suc ?_ | refine forceN_part ?_ | refine forceN_byte ?_ | refine forceN_ok ?_ | refine forceZ_add ?_ | refine forceZ_mul (by (try simp only [maxK]); omega) ?_ | refine forceZ_sub ?_ | refine forceZ_ok ?_ | refine rowAt_ok (byteRows_get (by (try simp only [maxK]); omega)) ?_ | (apply rowAt_ok; (focus assumption)) | refine br_true (Nat.beq_refl _) ?_ | refine br_true (by assumption) ?_ | refine br_false (by assumption) ?_ | refine br_max (by (try simp only [maxK]); omega) ?_ | refine br_ble_t (by (try simp only [maxK]); omega) ?_ | refine br_ble_f (by (try simp only [maxK]); omega) ?_ | refine br_beq_f (by (try simp only [maxK]); omega) ?_ | refine br_true (by simp only [Bool.and_eq_true, Nat.ble_eq]; (try simp only []); omega) ?_ | (refine br_ble (fun h => ?_) (fun h => ?_) <;> (try simp only [] at h)) | (refine br_beq (fun h => ?_) (fun h => ?_) <;> (try simp only [] at h)) | refine br_split (fun h => ?_) (fun h => ?_) | fail)
          all_goals (try (conv => lhs; whnf))
          exact hk _ _ _ _ (by omega) ⟨i + 1, false, rfl, by omega, by omega, hb, rfl, rfl, rfl, rfl, rfl, rfl, rfl, rfl, rfl⟩
    · obtain rfl : i = 18 := by omega
      rw [Nat.sub_self, show hasB 0 (signsN / 256 ^ 18) c = false from rfl, Bool.or_false] at hb
      subst hb
      repeat' ((conv => lhs; whnf); first | ((conv => lhs; arg 1; whnf); refine valK_ok ?_) | refine forceB_ok ?_ | refine forceN_add ?_ | refine forceN_sub ?_ | refine forceN_suc ?_ | refine forceN_part ?_ | refine forceN_byte ?_ | refine forceN_ok ?_ | refine forceZ_add ?_ | refine forceZ_mul (by (try simp only [maxK]); omega) ?_ | refine forceZ_sub ?_ | refine forceZ_ok ?_ | refine rowAt_ok (byteRows_get (by (try simp only [maxK]); omega)) ?_ | (apply rowAt_ok; (focus assumption)) | refine br_true (Nat.beq_refl _) ?_ | refine br_true (by assumption) ?_ | refine br_false (by assumption) ?_ | refine br_max (by (try simp only [maxK]); omega) ?_ | refine br_ble_t (by (try simp only [maxK]); omega) ?_ | refine br_ble_f (by (try simp only [maxK]); omega) ?_ | refine br_beq_f (by (try simp only [maxK]); omega) ?_ | refine br_true (by simp only [Bool.and_eq_true, Nat.ble_eq]; (try simp only []); omega) ?_ | (refine br_ble (fun h => ?_) (fun h => ?_) <;> (try simp only [] at h)) | (refine br_beq (fun h => ?_) (fun h => ?_) <;> (try simp only [] at h)) | refine br_split (fun h => ?_) (fun h => ?_) | fail)
      all_goals (try (conv => lhs; whnf))
      all_goals first | exact okIf_ok (frz_bool rfl) | (exfalso; omega))

end Go.Proofs.YtjljgldgkkfckaaDoor.M
