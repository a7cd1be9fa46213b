/- All tokens of a text. -/
import Derived.Test.YtjljgldgkkfckaaDoorMLex4
namespace Go.Proofs.YtjljgldgkkfckaaDoor.M
open Go
set_option linter.unusedSimpArgs false
set_option linter.unusedVariables false
variable {ρ : Nat → Value}

attribute [local irreducible] forceN forceZ forceB okIf roundsK valK rowAt
set_option maxRecDepth 100000

noncomputable def ovBlanks : OvT := ovM fun row args => match row, args with
  | [.ps len n, .int .i64 (.ofNat line), .int .i64 (.ofNat col)], [] =>
    some (Nat.ble len 140737488355328 && Nat.ble line 140737488355328 && Nat.ble col 140737488355328, .tup [],
      [.ps (blanksF len len n line col).1 (blanksF len len n line col).2.1, .int .i64 (.ofNat (blanksF len len n line col).2.2.1), .int .i64 (.ofNat (blanksF len len n line col).2.2.2)])
  | _, _ => none
theorem ovBlanks_ok : OvOK ρ Tryd.prog 22 ovBlanks := ov_saysM fun row args v row' h => by
  split at h
  · injection h with h
    injection h with h1 h2
    injection h2 with h2 h3
    subst h2 h3
    simp only [Bool.and_eq_true, Nat.ble_eq] at h1
    exact blanks_says _ _ _ _ h1.1.1 h1.1.2 h1.2 _ rfl
  · cases h

noncomputable def ovToken : OvT := fun args forb hp nx kr _ => match args with
  | [.ptr k 0 0] => (acc4 KOb k).get hp fun ob => match ob with
    | .cell [.ps len n, .int .i64 (.ofNat line), .int .i64 (.ofNat col)] => must (Nat.ble len 140737488355328) (must (Nat.ble col 281474976710656) (noneK k forb
        (optX (tokM len n) ((acc4 KOb k).upd hp (.cell (tokRow len n line col none)) fun hp' => kr (tokOut n line col none) hp' nx)
          (fun t => (acc4 KOb k).upd hp (.cell (tokRow len n line col (some t))) fun hp' => kr (tokOut n line col (some t)) hp' nx))))
    | _ => .err 3
  | _ => .err 4
theorem ovToken_ok : OvOK ρ Tryd.prog 23 ovToken := by
  intro args forb hp nx kr kp h0
  unfold ovToken at h0
  split at h0
  · rename_i k
    obtain ⟨hlt, h1⟩ := acc4_get h0
    split at h1
    · rename_i ob len n line col hob
      obtain ⟨c1, h2⟩ := must_inv h1
      obtain ⟨c2, h3⟩ := must_inv h2
      obtain ⟨hn, h4⟩ := noneK_inv h3
      have key := token_says (ρ := ρ) len n line col (Nat.le_of_ble_eq_true c1) (Nat.le_of_ble_eq_true c2) (absO hp) nx (inL forb) k (by unfold absO; rw [if_pos hlt, hob]; rfl) (fun r c hx => (hn r c hx).elim)
      refine key.mono ?_
      rintro o O m ⟨e1, e2, e3⟩
      subst e1 e2 e3
      rcases optX_inv h4 with ⟨e, h5⟩ | ⟨t, e, h5⟩
      · obtain ⟨_, h6⟩ := acc4_upd h5
        rw [e]
        exact ⟨put4 hp k (.cell (tokRow len n line col none)), by rw [absO_put hlt]; rfl, h6⟩
      · obtain ⟨_, h6⟩ := acc4_upd h5
        rw [e]
        exact ⟨put4 hp k (.cell (tokRow len n line col (some t))), by rw [absO_put hlt]; rfl, h6⟩
    · exact Ans.no h1
  · exact Ans.no h0

attribute [local irreducible] acc4 get4 put4

/-- What Tokens answers. -/
def toksOut : LexR → V
  | .ok l => .tup [.ro 5 (l.map Tok.row), .int .i64 (.ofNat 0), .int .i64 (.ofNat 0), .int .i64 (.ofNat 0)]
  | .bad line col => .tup [.sc (.slice none 0 0), .int .i64 (.ofNat line), .int .i64 (.ofNat col), .int .i64 (.ofNat 2)]

theorem tok_flat {t : Tok} : ∀ q ∈ t.row, q.flat = true ∧ q.one = true := fun q hq => by simp [Tok.row] at hq; rcases hq with rfl | rfl | rfl | rfl | rfl <;> exact ⟨rfl, rfl⟩
theorem toks_flat {l : List Tok} : ∀ row ∈ l.map Tok.row, ∀ q ∈ row, q.flat = true ∧ q.one = true := fun row hr q hq => by obtain ⟨t, _, rfl⟩ := List.mem_map.mp hr; exact tok_flat q hq

set_option maxHeartbeats 4000000 in
theorem tokens_says (len n : Nat) (hl : len ≤ 16384) : Says ρ Tryd.prog 10 [.ps len n] (toksOut (toksF (len + 1) len n 1 1)) := by
  refine .wf (i := 0) rfl fun hn => ?_
  refine says_run (call := over 22 ovBlanks (over 23 ovToken call0)) follows globL_ok (over_ok ovBlanks_ok (over_ok ovToken_ok call0_ok)) (arg1 rfl) ?_
  repeat' (first | ((conv => lhs; whnf); first | ((conv => lhs; arg 1; whnf); refine valK_ok ?_) | refine forceB_ok ?_ | refine forceN_add ?_ | refine forceN_sub ?_ | refine forceN_suc ?_ | refine forceN_part ?_ | refine forceN_byte ?_ | refine forceN_ok ?_ | refine forceZ_add ?_ | refine forceZ_mul (by (try simp only [maxK]); omega) ?_ | refine forceZ_sub ?_ | refine forceZ_ok ?_ | refine rowAt_ok (byteRows_get (by (try simp only [maxK]); omega)) ?_ | (apply rowAt_ok; (focus assumption)) | refine br_true (Nat.beq_refl _) ?_ | refine br_true (by assumption) ?_ | refine br_false (by assumption) ?_ | refine br_max (by (try simp only [maxK]); omega) ?_ | refine br_ble_t (by (try simp only [maxK]); omega) ?_ | refine br_ble_f (by (try simp only [maxK]); omega) ?_ | refine br_beq_f (by (try simp only [maxK]); omega) ?_ | refine br_true (by simp only [Bool.and_eq_true, Nat.ble_eq]; (try simp only []); omega) ?_ | (refine br_ble (fun h => ?_) (fun h => ?_) <;> (try simp only [] at h)) | (refine br_beq (fun h => ?_) (fun h => ?_) <;> (try simp only [] at h)) | refine br_split (fun h => ?_) (fun h => ?_) | fail) | ((conv => lhs; whnf); first | refine acc4_upd_ok (by omega) ?_ | refine acc4_get_same (by omega) ?_ | refine acc4_get_other (by omega) (by omega) (by omega) ?_ | refine acc4_get_ok (by omega) (by assumption) ?_ | refine opt3_split (fun h => ?_) (fun kind num tl h => ?_) | refine int_split (fun a h => ?_) (fun a h => ?_) | fail))
  conv => lhs; whnf
  refine loop_ok (fun m tm hp nx => ∃ l x li co acc, l < m ∧ x < 256 ^ l ∧ get4 hp 0 = .cell [.ps l x, .int .i64 (.ofNat li), .int .i64 (.ofNat co)] ∧ (toksF m l x li co).pre acc = toksF (len + 1) len n 1 1 ∧ l ≤ 16384 ∧ li + l ≤ 16386 ∧ co + l ≤ 16386 ∧ 1 ≤ nx ∧ nx + 3 * m ≤ 50000 ∧ acc.length + m = len + 1 ∧
    (acc = [] ∧ get2 tm 2 = .sc (.slice none 0 0) ∨ ∃ j, 0 < j ∧ j < nx ∧ get4 hp j = .ls 5 (acc.map Tok.row) ∧ get2 tm 2 = .sl j 0 (acc.map Tok.row).length false) ∧ get2 tm 6 = .ptr 0 0 0 ∧ get2 tm 255 = .un) (m := len + 1) (by omega)
    ⟨len, n, 1, 1, [], by omega, hn, get4_same (by omega), LexR.pre_nil _, hl, by omega, by omega, by omega, by omega, by simp, .inl ⟨rfl, rfl⟩, rfl, rfl⟩ ?_
  rintro m tm hp nx ⟨l, x, li, co, acc, hlm, hx, hrow, hres, hl1, hli, hco, hnx, hnx2, hal, hacc, e6, e255⟩ k hk
  have hB := blanksF_facts (f := l) (line := li) (col := co) hx
  have hT := fun kind num tl h => @tokM_facts (blanksF l l x li co).1 (blanksF l l x li co).2.1 kind num tl h
  have hal2 : (acc.map Tok.row).length = acc.length := by simp
  (obtain ⟨y0, y1, y2, y3, y4, y5, y6, y7, y8, y9, y10, y11, y12, y13, y14, y15⟩ := tm; obtain ⟨x0, x1, x2, x3, x4, x5, x6, x7, x8, x9, x10, x11, x12, x13, x14, x15⟩ := y0; obtain ⟨x16, x17, x18, x19, x20, x21, x22, x23, x24, x25, x26, x27, x28, x29, x30, x31⟩ := y1; obtain ⟨x32, x33, x34, x35, x36, x37, x38, x39, x40, x41, x42, x43, x44, x45, x46, x47⟩ := y2; obtain ⟨x240, x241, x242, x243, x244, x245, x246, x247, x248, x249, x250, x251, x252, x253, x254, x255⟩ := y15)
  cases e6
  cases e255
  obtain ⟨f, rfl⟩ : ∃ f, m = f + 1 := ⟨m - 1, by omega⟩
  rcases hacc with ⟨ea, e2⟩ | ⟨j, hj0, hj, hob, e2⟩
  · subst ea
    cases e2
    repeat' (first | ((conv => lhs; whnf); first | ((conv => lhs; arg 1; whnf); refine valK_ok ?_) | refine forceB_ok ?_ | refine forceN_add ?_ | refine forceN_sub ?_ | refine forceN_suc ?_ | refine forceN_part ?_ | refine forceN_byte ?_ | refine forceN_ok ?_ | refine forceZ_add ?_ | refine forceZ_mul (by (try simp only [maxK]); omega) ?_ | refine forceZ_sub ?_ | refine forceZ_ok ?_ | refine rowAt_ok (byteRows_get (by (try simp only [maxK]); omega)) ?_ | (apply rowAt_ok; (focus assumption)) | refine br_true (Nat.beq_refl _) ?_ | refine br_true (by assumption) ?_ | refine br_false (by assumption) ?_ | refine br_max (by (try simp only [maxK]); omega) ?_ | refine br_ble_t (by (try simp only [maxK]); omega) ?_ | refine br_ble_f (by (try simp only [maxK]); omega) ?_ | refine br_beq_f (by (try simp only [maxK]); omega) ?_ | refine br_true (by simp only [Bool.and_eq_true, Nat.ble_eq]; (try simp only []); omega) ?_ | (refine br_ble (fun h => ?_) (fun h => ?_) <;> (try simp only [] at h)) | (refine br_beq (fun h => ?_) (fun h => ?_) <;> (try simp only [] at h)) | refine br_split (fun h => ?_) (fun h => ?_) | fail) | ((conv => lhs; whnf); first | refine acc4_upd_ok (by omega) ?_ | refine acc4_get_same (by omega) ?_ | refine acc4_get_other (by omega) (by omega) (by omega) ?_ | refine acc4_get_ok (by omega) (by assumption) ?_ | refine opt3_split (fun h => ?_) (fun kind num tl h => ?_) | refine int_split (fun a h => ?_) (fun a h => ?_) | fail))
    all_goals (try (conv => lhs; whnf))
    · rw [LexR.pre_nil, toks_bad ‹_›] at hres
      rw [← hres]
      exact okIf_ok (frz_cons (.flat _ rfl) (frz_cons (frz_int rfl) (frz_cons (frz_int rfl) (frz_cons (frz_int rfl) frz_nil))))
    · rename_i ht
      subst h
      obtain ⟨_, ⟨_, _, hnum, htl⟩ | ⟨h4, _⟩⟩ := hT _ _ _ ht
      · subst hnum htl
        rw [toks_end ht, LexR.pre] at hres
        rw [← hres]
        refine okIf_ok (frz_cons (frz_ls (by omega) rfl ?_ rfl toks_flat) (frz_cons (frz_int rfl) (frz_cons (frz_int rfl) (frz_cons (frz_int rfl) frz_nil))))
        rw [Nat.pow_zero, Nat.mod_one]
        rfl
      · exact absurd rfl h4
    · rename_i ht
      obtain ⟨h5, ⟨h4, _⟩ | ⟨h4, h6⟩⟩ := hT _ _ _ ht
      · exact absurd h4 h
      · rw [toks_more ht h4, LexR.pre_pre] at hres
        refine hk f _ _ _ (by omega) ⟨_, _, _, _, _, ?_, part_lt hB.2.1 h5, ?_, hres, ?_, ?_, ?_, ?_, ?_, ?_, .inr ⟨nx + 1 + 1, ?_, ?_, ?_, ?_⟩, rfl, rfl⟩
        · omega
        · exact get4_other (by omega) (by omega) (by omega) (get4_other (by omega) (by omega) (by omega) (get4_other (by omega) (by omega) (by omega) (get4_other (by omega) (by omega) (by omega) (get4_same (by omega)))))
        · omega
        · omega
        · omega
        · omega
        · omega
        · simp at hal ⊢; omega
        · omega
        · omega
        · exact get4_same (by omega)
        · rfl
  · cases e2
    repeat' (first | ((conv => lhs; whnf); first | ((conv => lhs; arg 1; whnf); refine valK_ok ?_) | refine forceB_ok ?_ | refine forceN_add ?_ | refine forceN_sub ?_ | refine forceN_suc ?_ | refine forceN_part ?_ | refine forceN_byte ?_ | refine forceN_ok ?_ | refine forceZ_add ?_ | refine forceZ_mul (by (try simp only [maxK]); omega) ?_ | refine forceZ_sub ?_ | refine forceZ_ok ?_ | refine rowAt_ok (byteRows_get (by (try simp only [maxK]); omega)) ?_ | (apply rowAt_ok; (focus assumption)) | refine br_true (Nat.beq_refl _) ?_ | refine br_true (by assumption) ?_ | refine br_false (by assumption) ?_ | refine br_max (by (try simp only [maxK]); omega) ?_ | refine br_ble_t (by (try simp only [maxK]); omega) ?_ | refine br_ble_f (by (try simp only [maxK]); omega) ?_ | refine br_beq_f (by (try simp only [maxK]); omega) ?_ | refine br_true (by simp only [Bool.and_eq_true, Nat.ble_eq]; (try simp only []); omega) ?_ | (refine br_ble (fun h => ?_) (fun h => ?_) <;> (try simp only [] at h)) | (refine br_beq (fun h => ?_) (fun h => ?_) <;> (try simp only [] at h)) | refine br_split (fun h => ?_) (fun h => ?_) | fail) | ((conv => lhs; whnf); first | refine acc4_upd_ok (by omega) ?_ | refine acc4_get_same (by omega) ?_ | refine acc4_get_other (by omega) (by omega) (by omega) ?_ | refine acc4_get_ok (by omega) (by assumption) ?_ | refine opt3_split (fun h => ?_) (fun kind num tl h => ?_) | refine int_split (fun a h => ?_) (fun a h => ?_) | fail))
    all_goals (try (conv => lhs; whnf))
    · rw [toks_bad ‹_›, LexR.pre] at hres
      rw [← hres]
      exact okIf_ok (frz_cons (.flat _ rfl) (frz_cons (frz_int rfl) (frz_cons (frz_int rfl) (frz_cons (frz_int rfl) frz_nil))))
    · rename_i ht _
      subst h
      obtain ⟨_, ⟨_, _, hnum, htl⟩ | ⟨h4, _⟩⟩ := hT _ _ _ ht
      · subst hnum htl
        rw [toks_end ht, LexR.pre] at hres
        rw [← hres]
        refine okIf_ok (frz_cons (frz_ls (by omega) rfl ?_ ?_ toks_flat) (frz_cons (frz_int rfl) (frz_cons (frz_int rfl) (frz_cons (frz_int rfl) frz_nil))))
        · rw [Nat.pow_zero, Nat.mod_one]
          rw [List.take_length, List.map_append]
          rfl
        · simp
      · exact absurd rfl h4
    · rename_i ht _
      obtain ⟨h5, ⟨h4, _⟩ | ⟨h4, h6⟩⟩ := hT _ _ _ ht
      · exact absurd h4 h
      · rw [toks_more ht h4, LexR.pre_pre] at hres
        refine hk f _ _ _ (by omega) ⟨_, _, _, _, _, ?_, part_lt hB.2.1 h5, ?_, hres, ?_, ?_, ?_, ?_, ?_, ?_, .inr ⟨nx + 1 + 1, ?_, ?_, ?_, ?_⟩, rfl, rfl⟩
        · omega
        · exact get4_other (by omega) (by omega) (by omega) (get4_other (by omega) (by omega) (by omega) (get4_other (by omega) (by omega) (by omega) (get4_other (by omega) (by omega) (by omega) (get4_other (by omega) (by omega) (by omega) (get4_same (by omega))))))
        · omega
        · omega
        · omega
        · omega
        · omega
        · simp at hal ⊢; omega
        · omega
        · omega
        · rw [List.map_append]
          refine (get4_same (by omega)).trans ?_
          rw [List.take_length]
          rfl
        · rw [List.map_append, List.length_append]
          rfl
    · have h7 : 140737488355328 < ((acc.map Tok.row).length + 1) * 48 := h
      omega

end Go.Proofs.YtjljgldgkkfckaaDoor.M
