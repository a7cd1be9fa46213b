/- The document's lexer: all tokens. -/
import Derived.Test.YtjljgldgkkfckaaDoorMLex6
namespace Go.Proofs.YtjljgldgkkfckaaDoor.M
open Go
set_option linter.unusedSimpArgs false
set_option linter.unusedVariables false
variable {ρ : Nat → Value}

attribute [local irreducible] forceN forceZ forceB okIf roundsK valK rowAt
attribute [local irreducible] acc4 get4 put4
set_option maxRecDepth 100000

noncomputable def ovPiece : OvT := fun args _ hp nx kr _ => match args with
  | [.ps len n, .int .i64 (.ofNat i)] => must (Nat.ble len 140737488355328) (must (Nat.ble (Nat.succ i) len)
      (optX (tokM (len - i) (n / 256 ^ i)) (kr (.tup [.int .i64 (.ofNat 0), .int .i64 (.ofNat 0)]) hp nx) (fun t => kr (.tup [.int .i64 (.ofNat t.1), .int .i64 (.ofNat (i + t.2.2))]) hp nx)))
  | _ => .err 1
theorem ovPiece_ok : OvOK ρ Tryd.prog 24 ovPiece := by
  intro args forb hp nx kr kp h0
  unfold ovPiece at h0
  split at h0
  · rename_i len n i
    obtain ⟨c1, h1⟩ := must_inv h0
    obtain ⟨c2, h2⟩ := must_inv h1
    refine (piece_says len n i (Nat.le_of_ble_eq_true c1) (Nat.le_of_ble_eq_true c2) (absO hp) nx (inL forb)).mono ?_
    rintro o O m ⟨e1, e2, e3⟩
    subst e1 e2 e3
    rcases optX_inv h2 with ⟨e, h3⟩ | ⟨⟨a, b, c⟩, e, h3⟩
    · refine ⟨hp, rfl, ?_⟩
      rw [pieceM, e]
      exact h3
    · refine ⟨hp, rfl, ?_⟩
      rw [pieceM, e]
      exact h3
  · exact Ans.no h0

noncomputable def ovNumber : OvT := ovF fun
  | [.ps len n] => some (Nat.ble len 9 && Nat.beq (runP digitB len n) len, .int .i64 (.ofNat (numP len n 0)))
  | _ => none
theorem ovNumber_ok : OvOK ρ Tryd.prog 25 ovNumber := ov_says fun args v h => by
  split at h
  · injection h with h
    injection h with g1 g2
    subst g2
    simp only [Bool.and_eq_true, Nat.ble_eq, Nat.beq_eq] at g1
    exact number_says _ _ g1.1 g1.2
  · cases h

theorem nomul {l : Nat} (h : 140737488355328 < (l + 1) * 48) (h2 : l < 100000) : False := by omega

set_option maxHeartbeats 8000000 in
theorem rtokens_says (len n : Nat) (hl : len ≤ 16384) : Says ρ Tryd.prog 11 [.ps len n] (toksOut (toksF (len + 1) len n 1 1)) := by
  refine says_run (call := over 24 ovPiece (over 25 ovNumber call0)) follows globL_ok (over_ok ovPiece_ok (over_ok ovNumber_ok call0_ok)) (arg1 rfl) ?_
  repeat' (first | ((conv => lhs; whnf); first | ((conv => lhs; arg 1; whnf); refine valK_ok ?_) | refine forceB_ok ?_ | refine forceN_add ?_ | refine forceN_sub ?_ | refine forceN_suc ?_ | refine forceN_part ?_ | refine forceN_byte ?_ | refine forceN_ok ?_ | refine forceZ_add ?_ | refine forceZ_mul (by (try simp only [maxK]); omega) ?_ | refine forceZ_sub ?_ | refine forceZ_ok ?_ | refine rowAt_ok (byteRows_get (by (try simp only [maxK]); omega)) ?_ | (apply rowAt_ok; (focus assumption)) | refine br_true (Nat.beq_refl _) ?_ | refine br_true (by assumption) ?_ | refine br_false (by assumption) ?_ | refine br_max (by (try simp only [maxK]); omega) ?_ | refine br_ble_t (by (try simp only [maxK]); omega) ?_ | refine br_ble_f (by (try simp only [maxK]); omega) ?_ | refine br_beq_f (by (try simp only [maxK]); omega) ?_ | refine br_true (by simp only [Bool.and_eq_true, Nat.ble_eq]; (try simp only []); omega) ?_ | (refine br_ble (fun h => ?_) (fun h => ?_) <;> (try simp only [] at h)) | (refine br_beq (fun h => ?_) (fun h => ?_) <;> (try simp only [] at h)) | refine br_split (fun h => ?_) (fun h => ?_) | fail) | ((conv => lhs; whnf); first | refine acc4_upd_ok (by omega) ?_ | refine acc4_get_same (by omega) ?_ | refine acc4_get_other (by omega) (by omega) (by omega) ?_ | refine acc4_get_ok (by omega) (by assumption) ?_ | refine opt3_split (fun h => ?_) (fun kind num tl h => ?_) | refine int_split (fun a h => ?_) (fun a h => ?_) | fail))
  conv => lhs; whnf
  refine loop_ok (fun m tm hp nx => ∃ F i line from_ acc, m = 20000 + F * 20000 - i ∧ i ≤ len ∧ len - i < F + 1 ∧ from_ ≤ i ∧ line ≤ i + 1 ∧ (toksF (F + 1) (len - i) (n / 256 ^ i) line (i - from_ + 1)).pre acc = toksF (len + 1) len n 1 1 ∧ nx + 3 * F ≤ 50000 ∧ acc.length + F = len ∧
    (acc = [] ∧ get2 tm 6 = .sc (.slice none 0 0) ∨ ∃ j, j < nx ∧ get4 hp j = .ls 5 (acc.map Tok.row) ∧ get2 tm 6 = .sl j 0 (acc.map Tok.row).length false) ∧ get2 tm 0 = .ps len n ∧ get2 tm 7 = .int .i64 (.ofNat line) ∧ get2 tm 8 = .int .i64 (.ofNat from_) ∧ get2 tm 9 = .int .i64 (.ofNat i) ∧ get2 tm 255 = .un) (m := 20000 + len * 20000) (by omega)
    ⟨len, 0, 1, 0, [], by omega, by omega, by omega, by omega, by omega, by rw [LexR.pre_nil]; simp, by omega, by simp, .inl ⟨rfl, rfl⟩, rfl, rfl, rfl, rfl, rfl⟩ ?_
  rintro m tm hp nx ⟨F, i, line, from_, acc, rfl, hi, hF, hfr, hli, hres, hnx, hal, hacc, e0, e7, e8, e9, e255⟩ k hk
  have hal2 : (acc.map Tok.row).length = acc.length := by simp
  (obtain ⟨y0, y1, y2, y3, y4, y5, y6, y7, y8, y9, y10, y11, y12, y13, y14, y15⟩ := tm; obtain ⟨x0, x1, x2, x3, x4, x5, x6, x7, x8, x9, x10, x11, x12, x13, x14, x15⟩ := y0; obtain ⟨x16, x17, x18, x19, x20, x21, x22, x23, x24, x25, x26, x27, x28, x29, x30, x31⟩ := y1; obtain ⟨x32, x33, x34, x35, x36, x37, x38, x39, x40, x41, x42, x43, x44, x45, x46, x47⟩ := y2; obtain ⟨x48, x49, x50, x51, x52, x53, x54, x55, x56, x57, x58, x59, x60, x61, x62, x63⟩ := y3; obtain ⟨x64, x65, x66, x67, x68, x69, x70, x71, x72, x73, x74, x75, x76, x77, x78, x79⟩ := y4; obtain ⟨x80, x81, x82, x83, x84, x85, x86, x87, x88, x89, x90, x91, x92, x93, x94, x95⟩ := y5; obtain ⟨x96, x97, x98, x99, x100, x101, x102, x103, x104, x105, x106, x107, x108, x109, x110, x111⟩ := y6; obtain ⟨x240, x241, x242, x243, x244, x245, x246, x247, x248, x249, x250, x251, x252, x253, x254, x255⟩ := y15)
  cases e0
  cases e7
  cases e8
  cases e9
  cases e255
  have hmod : n / 256 ^ i % 256 < 256 := Nat.mod_lt _ (by omega)
  rcases hacc with ⟨ea, e6⟩ | ⟨j, hj, hob, e6⟩
  · subst ea
    cases e6
    repeat' (first | ((conv => lhs; whnf); first | ((conv => lhs; arg 1; whnf); refine valK_ok ?_) | refine forceB_ok ?_ | refine forceN_add ?_ | refine forceN_sub ?_ | refine forceN_suc ?_ | refine forceN_part ?_ | refine forceN_byte ?_ | refine forceN_ok ?_ | refine forceZ_add ?_ | refine forceZ_mul (by (try simp only [maxK]); omega) ?_ | refine forceZ_sub ?_ | refine forceZ_ok ?_ | refine rowAt_ok (byteRows_get (by (try simp only [maxK]); omega)) ?_ | (apply rowAt_ok; (focus assumption)) | refine br_true (Nat.beq_refl _) ?_ | refine br_true (by assumption) ?_ | refine br_false (by assumption) ?_ | refine br_max (by (try simp only [maxK]); omega) ?_ | refine br_ble_t (by (try simp only [maxK]); omega) ?_ | refine br_ble_f (by (try simp only [maxK]); omega) ?_ | refine br_beq_f (by (try simp only [maxK]); omega) ?_ | refine br_true (by simp only [Bool.and_eq_true, Nat.ble_eq]; (try simp only []); omega) ?_ | (refine br_ble (fun h => ?_) (fun h => ?_) <;> (try simp only [] at h)) | (refine br_beq (fun h => ?_) (fun h => ?_) <;> (try simp only [] at h)) | refine br_split (fun h => ?_) (fun h => ?_) | fail) | ((conv => lhs; whnf); first | refine acc4_upd_ok (by omega) ?_ | refine acc4_get_same (by omega) ?_ | refine acc4_get_other (by omega) (by omega) (by omega) ?_ | refine acc4_get_ok (by omega) (by assumption) ?_ | refine opt3_split (fun h => ?_) (fun kind num tl h => ?_) | refine int_split (fun a h => ?_) (fun a h => ?_) | fail))
    all_goals (try (conv => lhs; whnf))
    · rw [tp_line (by omega) ‹n / 256 ^ i % 256 = 10›] at hres
      exact hk _ _ _ _ (by omega) ⟨F, i + 1, line + 1, i + 1, [], rfl, by omega, by omega, by omega, by omega, hres, hnx, hal, .inl ⟨rfl, rfl⟩, rfl, rfl, rfl, rfl, rfl⟩
    · rw [tp_blank (by omega) hfr (.inl ‹n / 256 ^ i % 256 = 32›)] at hres
      exact hk _ _ _ _ (by omega) ⟨F, i + 1, line, from_, [], rfl, by omega, by omega, by omega, by omega, hres, hnx, hal, .inl ⟨rfl, rfl⟩, rfl, rfl, rfl, rfl, rfl⟩
    · rw [tp_blank (by omega) hfr (.inr ‹n / 256 ^ i % 256 = 9›)] at hres
      exact hk _ _ _ _ (by omega) ⟨F, i + 1, line, from_, [], rfl, by omega, by omega, by omega, by omega, hres, hnx, hal, .inl ⟨rfl, rfl⟩, rfl, rfl, rfl, rfl, rfl⟩
    · rw [tp_rem (by omega) hfr ‹n / 256 ^ i % 256 = 35›] at hres
      have hrl := runP_le lineB (len - i) (n / 256 ^ i)
      have hrp : 0 < runP lineB (len - i) (n / 256 ^ i) := runP_pos (by omega) (by rw [‹n / 256 ^ i % 256 = 35›]; rfl)
      refine loop_ok (fun m tm hp' nx' => ∃ K, m = len - K ∧ i ≤ K ∧ K ≤ len ∧ K + runP lineB (len - K) (n / 256 ^ K) = i + runP lineB (len - i) (n / 256 ^ i) ∧ hp' = hp ∧ nx' = nx ∧ get2 tm 0 = .ps len n ∧ get2 tm 6 = .sc (.slice none 0 0) ∧ get2 tm 7 = .int .i64 (.ofNat line) ∧ get2 tm 8 = .int .i64 (.ofNat from_) ∧ get2 tm 9 = .int .i64 (.ofNat K) ∧ get2 tm 255 = .un) (m := len - i) (by omega)
        ⟨i, rfl, by omega, by omega, rfl, rfl, rfl, rfl, rfl, rfl, rfl, rfl, rfl⟩ ?_
      rintro m tm hp' nx' ⟨K, rfl, hiK, hK, hE, ehp, enx, e0, e6, e7, e8, e9, e255⟩ k2 hk2
      subst ehp enx
      (obtain ⟨y0, y1, y2, y3, y4, y5, y6, y7, y8, y9, y10, y11, y12, y13, y14, y15⟩ := tm; obtain ⟨x0, x1, x2, x3, x4, x5, x6, x7, x8, x9, x10, x11, x12, x13, x14, x15⟩ := y0; obtain ⟨x16, x17, x18, x19, x20, x21, x22, x23, x24, x25, x26, x27, x28, x29, x30, x31⟩ := y1; obtain ⟨x32, x33, x34, x35, x36, x37, x38, x39, x40, x41, x42, x43, x44, x45, x46, x47⟩ := y2; obtain ⟨x48, x49, x50, x51, x52, x53, x54, x55, x56, x57, x58, x59, x60, x61, x62, x63⟩ := y3; obtain ⟨x64, x65, x66, x67, x68, x69, x70, x71, x72, x73, x74, x75, x76, x77, x78, x79⟩ := y4; obtain ⟨x80, x81, x82, x83, x84, x85, x86, x87, x88, x89, x90, x91, x92, x93, x94, x95⟩ := y5; obtain ⟨x96, x97, x98, x99, x100, x101, x102, x103, x104, x105, x106, x107, x108, x109, x110, x111⟩ := y6; obtain ⟨x240, x241, x242, x243, x244, x245, x246, x247, x248, x249, x250, x251, x252, x253, x254, x255⟩ := y15)
      cases e0
      cases e6
      cases e7
      cases e8
      cases e9
      cases e255
      have hst := fun h => @runP_step lineB K len n h
      repeat' ((conv => lhs; whnf); first | ((conv => lhs; arg 1; whnf); refine valK_ok ?_) | refine forceB_ok ?_ | refine forceN_add ?_ | refine forceN_sub ?_ | refine forceN_suc ?_ | refine forceN_part ?_ | refine forceN_byte ?_ | refine forceN_ok ?_ | refine forceZ_add ?_ | refine forceZ_mul (by (try simp only [maxK]); omega) ?_ | refine forceZ_sub ?_ | refine forceZ_ok ?_ | refine rowAt_ok (byteRows_get (by (try simp only [maxK]); omega)) ?_ | (apply rowAt_ok; (focus assumption)) | refine br_true (Nat.beq_refl _) ?_ | refine br_true (by assumption) ?_ | refine br_false (by assumption) ?_ | refine br_max (by (try simp only [maxK]); omega) ?_ | refine br_ble_t (by (try simp only [maxK]); omega) ?_ | refine br_ble_f (by (try simp only [maxK]); omega) ?_ | refine br_beq_f (by (try simp only [maxK]); omega) ?_ | refine br_true (by simp only [Bool.and_eq_true, Nat.ble_eq]; (try simp only []); omega) ?_ | (refine br_ble (fun h => ?_) (fun h => ?_) <;> (try simp only [] at h)) | (refine br_beq (fun h => ?_) (fun h => ?_) <;> (try simp only [] at h)) | refine br_split (fun h => ?_) (fun h => ?_) | fail)
      all_goals (try (conv => lhs; whnf))
      all_goals first
      | (have h10 := ‹n / 256 ^ K % 256 ≠ 10›
         refine hk2 _ _ _ _ (by omega) ⟨K + 1, rfl, by omega, by omega, ?_, rfl, rfl, rfl, rfl, rfl, rfl, rfl, rfl⟩
         rw [← hE, hst (by omega), show lineB (n / 256 ^ K % 256) = true by rw [lineB, beq_false_iff.mpr h10]; rfl])
      | (
        have hKe : i + runP lineB (len - i) (n / 256 ^ i) = K := by
          rcases Nat.lt_or_ge K len with g | g
          · rw [← hE, hst g, show lineB (n / 256 ^ K % 256) = false by first | (rw [lineB, ‹n / 256 ^ K % 256 = 10›]; rfl) | omega]
          · rw [← hE, show len - K = 0 by omega]; rfl
        rw [hKe] at hres
        exact hk _ _ _ _ (by omega) ⟨F, K, line, from_, [], rfl, by omega, by omega, by omega, by omega, hres, hnx, hal, .inl ⟨rfl, rfl⟩, rfl, rfl, rfl, rfl, rfl⟩)
    · rw [tp_bad ⟨‹_›, ‹_›, ‹_›, ‹_›⟩ ‹_›] at hres
      rw [← hres]
      exact okIf_ok (frz_cons (.flat _ rfl) (frz_cons (frz_int rfl) (frz_cons (frz_int rfl) (frz_cons (frz_int rfl) frz_nil))))
    · exact absurd ‹_› (tokM_kind ‹tokM (len - i) (n / 256 ^ i) = some _›)
    · have h2 := ‹kind = 2›
      subst h2
      have ht := ‹tokM (len - i) (n / 256 ^ i) = some (2, num, tl)›
      obtain ⟨_, _, hnum⟩ := tokM_num ht
      obtain ⟨hle, ⟨hk4, _⟩ | ⟨hk4, htl⟩⟩ := tokM_facts ht
      · exact absurd hk4 (by omega)
      have e1 : i + tl - i = tl := Nat.add_sub_cancel_left ..
      rw [tp_more hfr ⟨‹_›, ‹_›, ‹_›, ‹_›⟩ ht hk4, LexR.pre_pre] at hres
      obtain ⟨G, rfl⟩ : ∃ G, F = G + 1 := ⟨F - 1, by omega⟩
      have hal3 : 0 + (G + 1) = len := hal
      refine hk _ _ _ _ ?_ ⟨G, i + tl, line, from_, _, rfl, by omega, by omega, by omega, by omega, hres, by omega, ?_, .inr ⟨nx + 1 + 1, by omega, ?_, ?_⟩, rfl, rfl, rfl, rfl, rfl⟩
      · omega
      · simp; omega
      · refine (get4_same (by omega)).trans ?_
        show KOb.ls 5 [[.int .i64 (.ofNat 2), .int .i64 (.ofNat (numP (i + tl - i) (n / 256 ^ i % 256 ^ (i + tl - i)) 0)), .int .i64 (.ofNat line), .int .i64 (.ofNat (i - from_ + 1)), .ps (i + tl - i) (n / 256 ^ i % 256 ^ (i + tl - i))]] = KOb.ls 5 [Tok.row ⟨2, num, line, i - from_ + 1, tl, n / 256 ^ i % 256 ^ tl⟩]
        rw [e1, ← hnum]
        rfl
      · rfl
    · have h2 := ‹kind = 2›
      subst h2
      have ht := ‹tokM (len - i) (n / 256 ^ i) = some (2, num, tl)›
      obtain ⟨h9, hrun, hnum⟩ := tokM_num ht
      have e1 : i + tl - i = tl := Nat.add_sub_cancel_left ..
      have h3 : (Nat.ble (i + tl - i) 9 && Nat.beq (runP digitB (i + tl - i) (n / 256 ^ i % 256 ^ (i + tl - i))) (i + tl - i)) = false := h
      rw [e1, hrun, Nat.ble_eq_true_of_le h9] at h3
      simp at h3
    · have ht := ‹tokM (len - i) (n / 256 ^ i) = some (kind, num, tl)›
      have hnum := tokM_other ht ‹kind ≠ 2›
      obtain ⟨hle, ⟨hk4, _⟩ | ⟨hk4, htl⟩⟩ := tokM_facts ht
      · exact absurd hk4 (by omega)
      have e1 : i + tl - i = tl := Nat.add_sub_cancel_left ..
      rw [tp_more hfr ⟨‹_›, ‹_›, ‹_›, ‹_›⟩ ht hk4, LexR.pre_pre] at hres
      obtain ⟨G, rfl⟩ : ∃ G, F = G + 1 := ⟨F - 1, by omega⟩
      have hal3 : 0 + (G + 1) = len := hal
      refine hk _ _ _ _ ?_ ⟨G, i + tl, line, from_, _, rfl, by omega, by omega, by omega, by omega, hres, by omega, ?_, .inr ⟨nx + 1 + 1, by omega, ?_, ?_⟩, rfl, rfl, rfl, rfl, rfl⟩
      · omega
      · simp; omega
      · refine (get4_same (by omega)).trans ?_
        show KOb.ls 5 [[.int .i64 (.ofNat kind), .int .i64 (.ofNat 0), .int .i64 (.ofNat line), .int .i64 (.ofNat (i - from_ + 1)), .ps (i + tl - i) (n / 256 ^ i % 256 ^ (i + tl - i))]] = KOb.ls 5 [Tok.row ⟨kind, num, line, i - from_ + 1, tl, n / 256 ^ i % 256 ^ tl⟩]
        rw [e1, hnum]
        rfl
      · rfl
    · have ht := ‹tokM (len - i) (n / 256 ^ i) = some (kind, num, tl)›
      have hle := (tokM_facts ht).1
      omega
    · have hle : i = len := by omega
      subst hle
      rw [tp_end, LexR.pre] at hres
      rw [← hres]
      refine okIf_ok (frz_cons (frz_ls (by omega) rfl ?_ rfl toks_flat) (frz_cons (frz_int rfl) (frz_cons (frz_int rfl) (frz_cons (frz_int rfl) frz_nil))))
      rfl
  · cases e6
    repeat' (first | ((conv => lhs; whnf); first | ((conv => lhs; arg 1; whnf); refine valK_ok ?_) | refine forceB_ok ?_ | refine forceN_add ?_ | refine forceN_sub ?_ | refine forceN_suc ?_ | refine forceN_part ?_ | refine forceN_byte ?_ | refine forceN_ok ?_ | refine forceZ_add ?_ | refine forceZ_mul (by (try simp only [maxK]); omega) ?_ | refine forceZ_sub ?_ | refine forceZ_ok ?_ | refine rowAt_ok (byteRows_get (by (try simp only [maxK]); omega)) ?_ | (apply rowAt_ok; (focus assumption)) | refine br_true (Nat.beq_refl _) ?_ | refine br_true (by assumption) ?_ | refine br_false (by assumption) ?_ | refine br_max (by (try simp only [maxK]); omega) ?_ | refine br_ble_t (by (try simp only [maxK]); omega) ?_ | refine br_ble_f (by (try simp only [maxK]); omega) ?_ | refine br_beq_f (by (try simp only [maxK]); omega) ?_ | refine br_true (by simp only [Bool.and_eq_true, Nat.ble_eq]; (try simp only []); omega) ?_ | (refine br_ble (fun h => ?_) (fun h => ?_) <;> (try simp only [] at h)) | (refine br_beq (fun h => ?_) (fun h => ?_) <;> (try simp only [] at h)) | refine br_split (fun h => ?_) (fun h => ?_) | fail) | ((conv => lhs; whnf); first | refine acc4_upd_ok (by omega) ?_ | refine acc4_get_same (by omega) ?_ | refine acc4_get_other (by omega) (by omega) (by omega) ?_ | refine acc4_get_ok (by omega) (by assumption) ?_ | refine opt3_split (fun h => ?_) (fun kind num tl h => ?_) | refine int_split (fun a h => ?_) (fun a h => ?_) | fail))
    all_goals (try (conv => lhs; whnf))
    · rw [tp_line (by omega) ‹n / 256 ^ i % 256 = 10›] at hres
      exact hk _ _ _ _ (by omega) ⟨F, i + 1, line + 1, i + 1, acc, rfl, by omega, by omega, by omega, by omega, hres, hnx, hal, .inr ⟨j, hj, hob, rfl⟩, rfl, rfl, rfl, rfl, rfl⟩
    · rw [tp_blank (by omega) hfr (.inl ‹n / 256 ^ i % 256 = 32›)] at hres
      exact hk _ _ _ _ (by omega) ⟨F, i + 1, line, from_, acc, rfl, by omega, by omega, by omega, by omega, hres, hnx, hal, .inr ⟨j, hj, hob, rfl⟩, rfl, rfl, rfl, rfl, rfl⟩
    · rw [tp_blank (by omega) hfr (.inr ‹n / 256 ^ i % 256 = 9›)] at hres
      exact hk _ _ _ _ (by omega) ⟨F, i + 1, line, from_, acc, rfl, by omega, by omega, by omega, by omega, hres, hnx, hal, .inr ⟨j, hj, hob, rfl⟩, rfl, rfl, rfl, rfl, rfl⟩
    · rw [tp_rem (by omega) hfr ‹n / 256 ^ i % 256 = 35›] at hres
      have hrl := runP_le lineB (len - i) (n / 256 ^ i)
      have hrp : 0 < runP lineB (len - i) (n / 256 ^ i) := runP_pos (by omega) (by rw [‹n / 256 ^ i % 256 = 35›]; rfl)
      refine loop_ok (fun m tm hp' nx' => ∃ K, m = len - K ∧ i ≤ K ∧ K ≤ len ∧ K + runP lineB (len - K) (n / 256 ^ K) = i + runP lineB (len - i) (n / 256 ^ i) ∧ hp' = hp ∧ nx' = nx ∧ get2 tm 0 = .ps len n ∧ get2 tm 6 = .sl j 0 (acc.map Tok.row).length false ∧ get2 tm 7 = .int .i64 (.ofNat line) ∧ get2 tm 8 = .int .i64 (.ofNat from_) ∧ get2 tm 9 = .int .i64 (.ofNat K) ∧ get2 tm 255 = .un) (m := len - i) (by omega)
        ⟨i, rfl, by omega, by omega, rfl, rfl, rfl, rfl, rfl, rfl, rfl, rfl, rfl⟩ ?_
      rintro m tm hp' nx' ⟨K, rfl, hiK, hK, hE, ehp, enx, e0, e6, e7, e8, e9, e255⟩ k2 hk2
      subst ehp enx
      (obtain ⟨y0, y1, y2, y3, y4, y5, y6, y7, y8, y9, y10, y11, y12, y13, y14, y15⟩ := tm; obtain ⟨x0, x1, x2, x3, x4, x5, x6, x7, x8, x9, x10, x11, x12, x13, x14, x15⟩ := y0; obtain ⟨x16, x17, x18, x19, x20, x21, x22, x23, x24, x25, x26, x27, x28, x29, x30, x31⟩ := y1; obtain ⟨x32, x33, x34, x35, x36, x37, x38, x39, x40, x41, x42, x43, x44, x45, x46, x47⟩ := y2; obtain ⟨x48, x49, x50, x51, x52, x53, x54, x55, x56, x57, x58, x59, x60, x61, x62, x63⟩ := y3; obtain ⟨x64, x65, x66, x67, x68, x69, x70, x71, x72, x73, x74, x75, x76, x77, x78, x79⟩ := y4; obtain ⟨x80, x81, x82, x83, x84, x85, x86, x87, x88, x89, x90, x91, x92, x93, x94, x95⟩ := y5; obtain ⟨x96, x97, x98, x99, x100, x101, x102, x103, x104, x105, x106, x107, x108, x109, x110, x111⟩ := y6; obtain ⟨x240, x241, x242, x243, x244, x245, x246, x247, x248, x249, x250, x251, x252, x253, x254, x255⟩ := y15)
      cases e0
      cases e6
      cases e7
      cases e8
      cases e9
      cases e255
      have hst := fun h => @runP_step lineB K len n h
      repeat' ((conv => lhs; whnf); first | ((conv => lhs; arg 1; whnf); refine valK_ok ?_) | refine forceB_ok ?_ | refine forceN_add ?_ | refine forceN_sub ?_ | refine forceN_suc ?_ | refine forceN_part ?_ | refine forceN_byte ?_ | refine forceN_ok ?_ | refine forceZ_add ?_ | refine forceZ_mul (by (try simp only [maxK]); omega) ?_ | refine forceZ_sub ?_ | refine forceZ_ok ?_ | refine rowAt_ok (byteRows_get (by (try simp only [maxK]); omega)) ?_ | (apply rowAt_ok; (focus assumption)) | refine br_true (Nat.beq_refl _) ?_ | refine br_true (by assumption) ?_ | refine br_false (by assumption) ?_ | refine br_max (by (try simp only [maxK]); omega) ?_ | refine br_ble_t (by (try simp only [maxK]); omega) ?_ | refine br_ble_f (by (try simp only [maxK]); omega) ?_ | refine br_beq_f (by (try simp only [maxK]); omega) ?_ | refine br_true (by simp only [Bool.and_eq_true, Nat.ble_eq]; (try simp only []); omega) ?_ | (refine br_ble (fun h => ?_) (fun h => ?_) <;> (try simp only [] at h)) | (refine br_beq (fun h => ?_) (fun h => ?_) <;> (try simp only [] at h)) | refine br_split (fun h => ?_) (fun h => ?_) | fail)
      all_goals (try (conv => lhs; whnf))
      all_goals first
      | (have h10 := ‹n / 256 ^ K % 256 ≠ 10›
         refine hk2 _ _ _ _ (by omega) ⟨K + 1, rfl, by omega, by omega, ?_, rfl, rfl, rfl, rfl, rfl, rfl, rfl, rfl⟩
         rw [← hE, hst (by omega), show lineB (n / 256 ^ K % 256) = true by rw [lineB, beq_false_iff.mpr h10]; rfl])
      | (
        have hKe : i + runP lineB (len - i) (n / 256 ^ i) = K := by
          rcases Nat.lt_or_ge K len with g | g
          · rw [← hE, hst g, show lineB (n / 256 ^ K % 256) = false by first | (rw [lineB, ‹n / 256 ^ K % 256 = 10›]; rfl) | omega]
          · rw [← hE, show len - K = 0 by omega]; rfl
        rw [hKe] at hres
        exact hk _ _ _ _ (by omega) ⟨F, K, line, from_, acc, rfl, by omega, by omega, by omega, by omega, hres, hnx, hal, .inr ⟨j, hj, hob, rfl⟩, rfl, rfl, rfl, rfl, rfl⟩)
    · rw [tp_bad ⟨‹_›, ‹_›, ‹_›, ‹_›⟩ ‹_›] at hres
      rw [← hres]
      exact okIf_ok (frz_cons (.flat _ rfl) (frz_cons (frz_int rfl) (frz_cons (frz_int rfl) (frz_cons (frz_int rfl) frz_nil))))
    · exact absurd ‹_› (tokM_kind ‹tokM (len - i) (n / 256 ^ i) = some _›)
    · have h2 := ‹kind = 2›
      subst h2
      have ht := ‹tokM (len - i) (n / 256 ^ i) = some (2, num, tl)›
      obtain ⟨_, _, hnum⟩ := tokM_num ht
      obtain ⟨hle, ⟨hk4, _⟩ | ⟨hk4, htl⟩⟩ := tokM_facts ht
      · exact absurd hk4 (by omega)
      have e1 : i + tl - i = tl := Nat.add_sub_cancel_left ..
      rw [tp_more hfr ⟨‹_›, ‹_›, ‹_›, ‹_›⟩ ht hk4, LexR.pre_pre] at hres
      obtain ⟨G, rfl⟩ : ∃ G, F = G + 1 := ⟨F - 1, by omega⟩
      refine hk _ _ _ _ ?_ ⟨G, i + tl, line, from_, _, rfl, by omega, by omega, by omega, by omega, hres, by omega, ?_, .inr ⟨nx + 1 + 1, by omega, ?_, ?_⟩, rfl, rfl, rfl, rfl, rfl⟩
      · omega
      · simp; omega
      · rw [List.map_append]
        refine (get4_same (by omega)).trans ?_
        rw [List.take_length]
        show KOb.ls 5 (_ ++ [[.int .i64 (.ofNat 2), .int .i64 (.ofNat (numP (i + tl - i) (n / 256 ^ i % 256 ^ (i + tl - i)) 0)), .int .i64 (.ofNat line), .int .i64 (.ofNat (i - from_ + 1)), .ps (i + tl - i) (n / 256 ^ i % 256 ^ (i + tl - i))]]) = KOb.ls 5 (_ ++ [Tok.row ⟨2, num, line, i - from_ + 1, tl, n / 256 ^ i % 256 ^ tl⟩])
        rw [e1, ← hnum]
        rfl
      · rw [List.map_append, List.length_append]
        rfl
    · exact (nomul ‹_› (by omega)).elim
    · have h2 := ‹kind = 2›
      subst h2
      have ht := ‹tokM (len - i) (n / 256 ^ i) = some (2, num, tl)›
      obtain ⟨h9, hrun, hnum⟩ := tokM_num ht
      have e1 : i + tl - i = tl := Nat.add_sub_cancel_left ..
      have h3 : (Nat.ble (i + tl - i) 9 && Nat.beq (runP digitB (i + tl - i) (n / 256 ^ i % 256 ^ (i + tl - i))) (i + tl - i)) = false := h
      rw [e1, hrun, Nat.ble_eq_true_of_le h9] at h3
      simp at h3
    · have ht := ‹tokM (len - i) (n / 256 ^ i) = some (kind, num, tl)›
      have hnum := tokM_other ht ‹kind ≠ 2›
      obtain ⟨hle, ⟨hk4, _⟩ | ⟨hk4, htl⟩⟩ := tokM_facts ht
      · exact absurd hk4 (by omega)
      have e1 : i + tl - i = tl := Nat.add_sub_cancel_left ..
      rw [tp_more hfr ⟨‹_›, ‹_›, ‹_›, ‹_›⟩ ht hk4, LexR.pre_pre] at hres
      obtain ⟨G, rfl⟩ : ∃ G, F = G + 1 := ⟨F - 1, by omega⟩
      refine hk _ _ _ _ ?_ ⟨G, i + tl, line, from_, _, rfl, by omega, by omega, by omega, by omega, hres, by omega, ?_, .inr ⟨nx + 1 + 1, by omega, ?_, ?_⟩, rfl, rfl, rfl, rfl, rfl⟩
      · omega
      · simp; omega
      · rw [List.map_append]
        refine (get4_same (by omega)).trans ?_
        rw [List.take_length]
        show KOb.ls 5 (_ ++ [[.int .i64 (.ofNat kind), .int .i64 (.ofNat 0), .int .i64 (.ofNat line), .int .i64 (.ofNat (i - from_ + 1)), .ps (i + tl - i) (n / 256 ^ i % 256 ^ (i + tl - i))]]) = KOb.ls 5 (_ ++ [Tok.row ⟨kind, num, line, i - from_ + 1, tl, n / 256 ^ i % 256 ^ tl⟩])
        rw [e1, hnum]
        rfl
      · rw [List.map_append, List.length_append]
        rfl
    · exact (nomul ‹_› (by omega)).elim
    · have ht := ‹tokM (len - i) (n / 256 ^ i) = some (kind, num, tl)›
      have hle := (tokM_facts ht).1
      omega
    · have hle : i = len := by omega
      subst hle
      rw [tp_end, LexR.pre] at hres
      rw [← hres]
      refine okIf_ok (frz_cons (frz_ls (by omega) rfl ?_ ?_ toks_flat) (frz_cons (frz_int rfl) (frz_cons (frz_int rfl) (frz_cons (frz_int rfl) frz_nil))))
      · rw [List.take_length, List.map_append]
        rfl
      · simp
    · exact (nomul ‹_› (by omega)).elim

end Go.Proofs.YtjljgldgkkfckaaDoor.M
