/- Texts of this claim, one behind the other. -/
import Derived.Test.YtjljgldgkkfckaaDoorX3LexNames
import Derived.Test.YtjljgldgkkfckaaDoorX2LexNames
import Derived.Test.YtjljgldgkkfckaaDoorRows
import Derived.LaidSub
import Derived.WalkKit
import Derived.ProofKit
import Derived.OpenShut
import Derived.ChangeOld
import Derived.ChangeSlices
import Derived.Below
import Derived.SizedLaws
import Derived.LaidMore
import Derived.Stop.Joined
/- For LexNames: the document's words. -/
namespace Go.Proofs.YtjljgldgkkfckaaDoor.M
open Go
set_option linter.unusedSimpArgs false
set_option linter.unusedVariables false
variable {ρ : Nat → Value}

attribute [local irreducible] forceN forceZ forceB okIf roundsK valK rowAt
set_option maxRecDepth 100000

set_option maxHeartbeats 4000000 in
theorem rword_says (len n : Nat) (hl : len ≤ 140737488355328) : Says ρ Tryd.prog 17 [.ps len n] (.bool (wordM len n)) := by
  refine says_run (call := over 30 (ovB letterB) (over 31 (ovB digitB) call0)) follows globL_ok (over_ok (ovB_ok rletter_says) (over_ok (ovB_ok rdigit_says) call0_ok)) (arg1 rfl) ?_
  repeat' ((conv => lhs; whnf); first | ((conv => lhs; arg 1; whnf); refine valK_ok ?_) | refine forceB_ok ?_ | refine forceN_add ?_ | refine forceN_sub ?_ | refine forceN_suc ?_ | refine forceN_part ?_ | refine forceN_byte ?_ | refine forceN_ok ?_ | refine forceZ_add ?_ | refine forceZ_mul (by (try simp only [maxK]); omega) ?_ | refine forceZ_sub ?_ | refine forceZ_ok ?_ | refine rowAt_ok (byteRows_get (by (try simp only [maxK]); omega)) ?_ | (apply rowAt_ok; (focus assumption)) | refine br_true (Nat.beq_refl _) ?_ | refine br_true (by assumption) ?_ | refine br_false (by assumption) ?_ | refine br_max (by (try simp only [maxK]); omega) ?_ | refine br_ble_t (by (try simp only [maxK]); omega) ?_ | refine br_ble_f (by (try simp only [maxK]); omega) ?_ | refine br_beq_f (by (try simp only [maxK]); omega) ?_ | refine br_true (by simp only [Bool.and_eq_true, Nat.ble_eq]; (try simp only []); omega) ?_ | (refine br_ble (fun h => ?_) (fun h => ?_) <;> (try simp only [] at h)) | (refine br_beq (fun h => ?_) (fun h => ?_) <;> (try simp only [] at h)) | refine br_split (fun h => ?_) (fun h => ?_) | fail)
  conv => lhs; whnf
  refine loop_ok (fun m tm hp nx => ∃ i, m = len - i ∧ i ≤ len ∧ runP innerB len n = i + runP innerB (len - i) (n / 256 ^ i) ∧ (0 < i → letterB (n % 256) = true) ∧ get2 tm 0 = .ps len n ∧ get2 tm 3 = .int .i64 (.ofNat i) ∧ get2 tm 255 = .un) (m := len) (by omega)
    ⟨0, rfl, by omega, by simp, by omega, rfl, rfl, rfl⟩ ?_
  rintro m tm hp nx ⟨i, rfl, hi, hr, hL, e0, e3, e255⟩ k hk
  (obtain ⟨y0, y1, y2, y3, y4, y5, y6, y7, y8, y9, y10, y11, y12, y13, y14, y15⟩ := tm; obtain ⟨x0, x1, x2, x3, x4, x5, x6, x7, x8, x9, x10, x11, x12, x13, x14, x15⟩ := y0; obtain ⟨x16, x17, x18, x19, x20, x21, x22, x23, x24, x25, x26, x27, x28, x29, x30, x31⟩ := y1; obtain ⟨x32, x33, x34, x35, x36, x37, x38, x39, x40, x41, x42, x43, x44, x45, x46, x47⟩ := y2; obtain ⟨x240, x241, x242, x243, x244, x245, x246, x247, x248, x249, x250, x251, x252, x253, x254, x255⟩ := y15)
  cases e0
  cases e3
  cases e255
  have hs := fun h => @runP_step innerB i len n h
  have hb0 := byte0 n
  rcases Nat.lt_or_ge i len with hlt | hge
  · have hs := hs hlt
    rcases Nat.eq_zero_or_pos i with h0 | h0
    · subst h0
      repeat' ((conv => lhs; whnf); first | ((conv => lhs; arg 1; whnf); refine valK_ok ?_) | refine forceB_ok ?_ | refine forceN_add ?_ | refine forceN_sub ?_ | refine forceN_suc ?_ | refine forceN_part ?_ | refine forceN_byte ?_ | refine forceN_ok ?_ | refine forceZ_add ?_ | refine forceZ_mul (by (try simp only [maxK]); omega) ?_ | refine forceZ_sub ?_ | refine forceZ_ok ?_ | refine rowAt_ok (byteRows_get (by (try simp only [maxK]); omega)) ?_ | (apply rowAt_ok; (focus assumption)) | refine br_true (Nat.beq_refl _) ?_ | refine br_true (by assumption) ?_ | refine br_false (by assumption) ?_ | refine br_max (by (try simp only [maxK]); omega) ?_ | refine br_ble_t (by (try simp only [maxK]); omega) ?_ | refine br_ble_f (by (try simp only [maxK]); omega) ?_ | refine br_beq_f (by (try simp only [maxK]); omega) ?_ | refine br_true (by simp only [Bool.and_eq_true, Nat.ble_eq]; (try simp only []); omega) ?_ | (refine br_ble (fun h => ?_) (fun h => ?_) <;> (try simp only [] at h)) | (refine br_beq (fun h => ?_) (fun h => ?_) <;> (try simp only [] at h)) | refine br_split (fun h => ?_) (fun h => ?_) | fail)
      all_goals (try (conv => lhs; whnf))
      · refine hk _ _ _ _ (by omega) ⟨0 + 1, rfl, by omega, ?_, fun _ => ?_, rfl, rfl, rfl⟩
        · rw [hr, hs, show innerB (n / 256 ^ 0 % 256) = true by rw [innerB, h]; rfl]
        · rw [← hb0]; exact h
      · exact okIf_ok (frz_bool (by rw [wordM, ← hb0, h]; simp))
    · have hL1 := hL h0
      repeat' ((conv => lhs; whnf); first | ((conv => lhs; arg 1; whnf); refine valK_ok ?_) | refine forceB_ok ?_ | refine forceN_add ?_ | refine forceN_sub ?_ | refine forceN_suc ?_ | refine forceN_part ?_ | refine forceN_byte ?_ | refine forceN_ok ?_ | refine forceZ_add ?_ | refine forceZ_mul (by (try simp only [maxK]); omega) ?_ | refine forceZ_sub ?_ | refine forceZ_ok ?_ | refine rowAt_ok (byteRows_get (by (try simp only [maxK]); omega)) ?_ | (apply rowAt_ok; (focus assumption)) | refine br_true (Nat.beq_refl _) ?_ | refine br_true (by assumption) ?_ | refine br_false (by assumption) ?_ | refine br_max (by (try simp only [maxK]); omega) ?_ | refine br_ble_t (by (try simp only [maxK]); omega) ?_ | refine br_ble_f (by (try simp only [maxK]); omega) ?_ | refine br_beq_f (by (try simp only [maxK]); omega) ?_ | refine br_true (by simp only [Bool.and_eq_true, Nat.ble_eq]; (try simp only []); omega) ?_ | (refine br_ble (fun h => ?_) (fun h => ?_) <;> (try simp only [] at h)) | (refine br_beq (fun h => ?_) (fun h => ?_) <;> (try simp only [] at h)) | refine br_split (fun h => ?_) (fun h => ?_) | fail)
      all_goals (try (conv => lhs; whnf))
      all_goals first
      | (refine hk _ _ _ _ (by omega) ⟨i + 1, rfl, by omega, ?_, fun _ => hL1, rfl, rfl, rfl⟩
         rw [hr, hs, show innerB (n / 256 ^ i % 256) = true by first | (rw [innerB, ‹letterB (n / 256 ^ i % 256) = true›]; rfl) | (rw [innerB, ‹digitB (n / 256 ^ i % 256) = true›]; simp) | (rw [innerB, ‹n / 256 ^ i % 256 = 95›]; rfl)])
      | (have hf : innerB (n / 256 ^ i % 256) = false := by
           rw [innerB, ‹letterB (n / 256 ^ i % 256) = false›, ‹digitB (n / 256 ^ i % 256) = false›, beq_false_iff.mpr ‹n / 256 ^ i % 256 ≠ 95›]; rfl
         rw [hf] at hs
         simp only [] at hs
         exact okIf_ok (frz_bool (by rw [wordM, show Nat.beq (runP innerB len n) len = false from beq_false_iff.mpr (by omega)]; simp)))
  · obtain rfl : i = len := by omega
    rw [Nat.sub_self] at hr
    have hr : runP innerB i n = i := hr
    repeat' ((conv => lhs; whnf); first | ((conv => lhs; arg 1; whnf); refine valK_ok ?_) | refine forceB_ok ?_ | refine forceN_add ?_ | refine forceN_sub ?_ | refine forceN_suc ?_ | refine forceN_part ?_ | refine forceN_byte ?_ | refine forceN_ok ?_ | refine forceZ_add ?_ | refine forceZ_mul (by (try simp only [maxK]); omega) ?_ | refine forceZ_sub ?_ | refine forceZ_ok ?_ | refine rowAt_ok (byteRows_get (by (try simp only [maxK]); omega)) ?_ | (apply rowAt_ok; (focus assumption)) | refine br_true (Nat.beq_refl _) ?_ | refine br_true (by assumption) ?_ | refine br_false (by assumption) ?_ | refine br_max (by (try simp only [maxK]); omega) ?_ | refine br_ble_t (by (try simp only [maxK]); omega) ?_ | refine br_ble_f (by (try simp only [maxK]); omega) ?_ | refine br_beq_f (by (try simp only [maxK]); omega) ?_ | refine br_true (by simp only [Bool.and_eq_true, Nat.ble_eq]; (try simp only []); omega) ?_ | (refine br_ble (fun h => ?_) (fun h => ?_) <;> (try simp only [] at h)) | (refine br_beq (fun h => ?_) (fun h => ?_) <;> (try simp only [] at h)) | refine br_split (fun h => ?_) (fun h => ?_) | fail)
    all_goals (try (conv => lhs; whnf))
    all_goals refine okIf_ok (frz_bool ?_)
    all_goals first
    | (rw [wordM, hr, Nat.beq_refl, hL (by omega), Nat.ble_eq_true_of_le (show 1 ≤ i by omega), Nat.ble_eq_true_of_le (show i ≤ 16 by omega)]; rfl)
    | (rw [wordM, ble_false_iff.mpr (show i < 1 by omega)]; simp)
    | (rw [wordM, ble_false_iff.mpr (show 16 < i by omega)]; simp)

/-- The key words. -/
def ktab : List (Nat × Nat) := [(3, 6779757), (3, 6514034), (3, 6710628), (5, 491496170337), (2, 28271), (3, 7628140), (3, 7824750), (5, 500135195763), (3, 7628135), (3, 7628147), (4, 1885435763), (7, 32199706694346098), (4, 1702259047), (4, 1886351212), (5, 474449277043), (4, 1819042147), (5, 474214393697), (5, 431415719271), (4, 1701147238), (2, 29537), (2, 26217), (4, 1702063205), (4, 1701736292), (4, 1702260589), (3, 7630441), (3, 7500385), (3, 7304041), (3, 7102838), (3, 6710642), (3, 6775156)]
def isW (l n : Nat) (p : Nat × Nat) : Bool := Nat.beq l p.1 && Nat.beq n p.2
def keyM (l n : Nat) : Bool := ktab.any (isW l n)
theorem tab_at {tab : List (Nat × Nat)} {i : Nat} (hl : i < tab.length) : (tab.map fun p => [V.ps p.1 p.2])[i]? = some [.ps (tab.getD i (0, 0)).1 (tab.getD i (0, 0)).2] := by
  rw [List.getElem?_map, List.getElem?_eq_getElem hl, List.getD_eq_getElem?_getD, List.getElem?_eq_getElem hl]
  rfl
theorem any_step {tab : List (Nat × Nat)} {f : Nat × Nat → Bool} {i : Nat} (hl : i < tab.length) : (tab.drop i).any f = (f (tab.getD i (0, 0)) || (tab.drop (i + 1)).any f) := by
  rw [List.drop_eq_getElem_cons hl, List.any_cons, List.getD_eq_getElem?_getD, List.getElem?_eq_getElem hl]
  rfl

set_option maxHeartbeats 4000000 in
theorem rkeys_says : Says ρ Tryd.prog 34 [] (.ro 1 (ktab.map fun p => [.ps p.1 p.2])) := by
  refine says_run (call := call0) follows globL_ok call0_ok (fun _ h => by cases h) ?_
  repeat' (first | ((conv => lhs; whnf); first | ((conv => lhs; arg 1; whnf); refine valK_ok ?_) | refine forceB_ok ?_ | refine forceN_add ?_ | refine forceN_sub ?_ | refine forceN_suc ?_ | refine forceN_part ?_ | refine forceN_byte ?_ | refine forceN_ok ?_ | refine forceZ_add ?_ | refine forceZ_mul (by (try simp only [maxK]); omega) ?_ | refine forceZ_sub ?_ | refine forceZ_ok ?_ | refine rowAt_ok (byteRows_get (by (try simp only [maxK]); omega)) ?_ | (apply rowAt_ok; (focus assumption)) | refine br_true (Nat.beq_refl _) ?_ | refine br_true (by assumption) ?_ | refine br_false (by assumption) ?_ | refine br_max (by (try simp only [maxK]); omega) ?_ | refine br_ble_t (by (try simp only [maxK]); omega) ?_ | refine br_ble_f (by (try simp only [maxK]); omega) ?_ | refine br_beq_f (by (try simp only [maxK]); omega) ?_ | refine br_true (by simp only [Bool.and_eq_true, Nat.ble_eq]; (try simp only []); omega) ?_ | (refine br_ble (fun h => ?_) (fun h => ?_) <;> (try simp only [] at h)) | (refine br_beq (fun h => ?_) (fun h => ?_) <;> (try simp only [] at h)) | refine br_split (fun h => ?_) (fun h => ?_) | fail) | ((conv => lhs; whnf); first | refine acc4_upd_ok (by omega) ?_ | refine acc4_get_same (by omega) ?_ | refine acc4_get_other (by omega) (by omega) (by omega) ?_ | refine acc4_get_ok (by omega) (by assumption) ?_ | refine opt3_split (fun h => ?_) (fun kind num tl h => ?_) | refine int_split (fun a h => ?_) (fun a h => ?_) | fail))
  conv => lhs; whnf
  exact okIf_ok (frz_arr rfl rfl rfl rfl rfl)

noncomputable def ovKeys : OvT := ovF fun
  | [] => some (true, .ro 1 (ktab.map fun p => [.ps p.1 p.2]))
  | _ => none
theorem ovKeys_ok : OvOK ρ Tryd.prog 34 ovKeys := ov_says fun args v h => by
  split at h
  · injection h with h
    injection h with g1 g2
    subst g2
    exact rkeys_says
  · cases h

set_option maxHeartbeats 4000000 in
theorem rkey_says (len n : Nat) (hl : len ≤ 140737488355328) : Says ρ Tryd.prog 19 [.ps len n] (.bool (keyM len n)) := by
  refine says_run (call := over 34 ovKeys call0) follows globL_ok (over_ok ovKeys_ok call0_ok) (arg1 rfl) ?_
  repeat' (first | ((conv => lhs; whnf); first | ((conv => lhs; arg 1; whnf); refine valK_ok ?_) | refine forceB_ok ?_ | refine forceN_add ?_ | refine forceN_sub ?_ | refine forceN_suc ?_ | refine forceN_part ?_ | refine forceN_byte ?_ | refine forceN_ok ?_ | refine forceZ_add ?_ | refine forceZ_mul (by (try simp only [maxK]); omega) ?_ | refine forceZ_sub ?_ | refine forceZ_ok ?_ | refine rowAt_ok (byteRows_get (by (try simp only [maxK]); omega)) ?_ | (apply rowAt_ok; (focus assumption)) | refine br_true (Nat.beq_refl _) ?_ | refine br_true (by assumption) ?_ | refine br_false (by assumption) ?_ | refine br_max (by (try simp only [maxK]); omega) ?_ | refine br_ble_t (by (try simp only [maxK]); omega) ?_ | refine br_ble_f (by (try simp only [maxK]); omega) ?_ | refine br_beq_f (by (try simp only [maxK]); omega) ?_ | refine br_true (by simp only [Bool.and_eq_true, Nat.ble_eq]; (try simp only []); omega) ?_ | (refine br_ble (fun h => ?_) (fun h => ?_) <;> (try simp only [] at h)) | (refine br_beq (fun h => ?_) (fun h => ?_) <;> (try simp only [] at h)) | refine br_split (fun h => ?_) (fun h => ?_) | fail) | ((conv => lhs; whnf); first | refine acc4_upd_ok (by omega) ?_ | refine acc4_get_same (by omega) ?_ | refine acc4_get_other (by omega) (by omega) (by omega) ?_ | refine acc4_get_ok (by omega) (by assumption) ?_ | refine opt3_split (fun h => ?_) (fun kind num tl h => ?_) | refine int_split (fun a h => ?_) (fun a h => ?_) | fail))
  conv => lhs; whnf
  refine loop_ok (fun m tm hp nx => ∃ i, m = ktab.length - i ∧ i ≤ ktab.length ∧ keyM len n = (ktab.drop i).any (isW len n) ∧ get2 tm 0 = .ps len n ∧ get2 tm 5 = .ro 1 (ktab.map fun p => [.ps p.1 p.2]) ∧ get2 tm 6 = .int .i64 (.ofNat (ktab.map fun p => [V.ps p.1 p.2]).length) ∧ get2 tm 7 = .int .i64 (.ofNat i) ∧ get2 tm 255 = .un) (m := ktab.length) (by decide)
    ⟨0, rfl, by omega, rfl, rfl, rfl, rfl, rfl, rfl⟩ ?_
  rintro m tm hp nx ⟨i, rfl, hi, hr, e0, e5, e6, e7, e255⟩ k hk
  have hkl : ktab.length = 30 := rfl
  have hkm : (ktab.map fun p => [V.ps p.1 p.2]).length = 30 := rfl
  (obtain ⟨y0, y1, y2, y3, y4, y5, y6, y7, y8, y9, y10, y11, y12, y13, y14, y15⟩ := tm; obtain ⟨x0, x1, x2, x3, x4, x5, x6, x7, x8, x9, x10, x11, x12, x13, x14, x15⟩ := y0; obtain ⟨x16, x17, x18, x19, x20, x21, x22, x23, x24, x25, x26, x27, x28, x29, x30, x31⟩ := y1; obtain ⟨x240, x241, x242, x243, x244, x245, x246, x247, x248, x249, x250, x251, x252, x253, x254, x255⟩ := y15)
  cases e0
  cases e5
  cases e6
  cases e7
  cases e255
  rcases Nat.lt_or_ge i ktab.length with hlt | hge
  · have hrow := tab_at hlt
    have hst := any_step (f := isW len n) hlt
    generalize hw : ktab.getD i (0, 0) = w at *
    obtain ⟨w1, w2⟩ := w
    repeat' (first | ((conv => lhs; whnf); first | ((conv => lhs; arg 1; whnf); refine valK_ok ?_) | refine forceB_ok ?_ | refine forceN_add ?_ | refine forceN_sub ?_ | refine forceN_suc ?_ | refine forceN_part ?_ | refine forceN_byte ?_ | refine forceN_ok ?_ | refine forceZ_add ?_ | refine forceZ_mul (by (try simp only [maxK]); omega) ?_ | refine forceZ_sub ?_ | refine forceZ_ok ?_ | refine rowAt_ok (byteRows_get (by (try simp only [maxK]); omega)) ?_ | (apply rowAt_ok; (focus assumption)) | refine br_true (Nat.beq_refl _) ?_ | refine br_true (by assumption) ?_ | refine br_false (by assumption) ?_ | refine br_max (by (try simp only [maxK]); omega) ?_ | refine br_ble_t (by (try simp only [maxK]); omega) ?_ | refine br_ble_f (by (try simp only [maxK]); omega) ?_ | refine br_beq_f (by (try simp only [maxK]); omega) ?_ | refine br_true (by simp only [Bool.and_eq_true, Nat.ble_eq]; (try simp only []); omega) ?_ | (refine br_ble (fun h => ?_) (fun h => ?_) <;> (try simp only [] at h)) | (refine br_beq (fun h => ?_) (fun h => ?_) <;> (try simp only [] at h)) | refine br_split (fun h => ?_) (fun h => ?_) | fail) | ((conv => lhs; whnf); first | refine acc4_upd_ok (by omega) ?_ | refine acc4_get_same (by omega) ?_ | refine acc4_get_other (by omega) (by omega) (by omega) ?_ | refine acc4_get_ok (by omega) (by assumption) ?_ | refine opt3_split (fun h => ?_) (fun kind num tl h => ?_) | refine int_split (fun a h => ?_) (fun a h => ?_) | fail))
    all_goals (try (conv => lhs; whnf))
    all_goals first
    | (refine hk _ _ _ _ (by omega) ⟨i + 1, rfl, by omega, ?_, rfl, rfl, rfl, rfl, rfl⟩
       have hf : isW len n (w1, w2) = false := by
         show (Nat.beq len w1 && Nat.beq n w2) = false
         first
         | (rw [beq_false_iff.mpr ‹len ≠ w1›]; rfl)
         | (rw [beq_false_iff.mpr ‹n ≠ w2›, Bool.and_false])
       rw [hr, hst, hf]
       rfl)
    | (refine okIf_ok (frz_bool ?_)
       have ht : isW len n (w1, w2) = true := by
         show (Nat.beq len w1 && Nat.beq n w2) = true
         rw [‹len = w1›, ‹n = w2›, Nat.beq_refl, Nat.beq_refl]
         rfl
       rw [hr, hst, ht]
       rfl)
  · repeat' (first | ((conv => lhs; whnf); first | ((conv => lhs; arg 1; whnf); refine valK_ok ?_) | refine forceB_ok ?_ | refine forceN_add ?_ | refine forceN_sub ?_ | refine forceN_suc ?_ | refine forceN_part ?_ | refine forceN_byte ?_ | refine forceN_ok ?_ | refine forceZ_add ?_ | refine forceZ_mul (by (try simp only [maxK]); omega) ?_ | refine forceZ_sub ?_ | refine forceZ_ok ?_ | refine rowAt_ok (byteRows_get (by (try simp only [maxK]); omega)) ?_ | (apply rowAt_ok; (focus assumption)) | refine br_true (Nat.beq_refl _) ?_ | refine br_true (by assumption) ?_ | refine br_false (by assumption) ?_ | refine br_max (by (try simp only [maxK]); omega) ?_ | refine br_ble_t (by (try simp only [maxK]); omega) ?_ | refine br_ble_f (by (try simp only [maxK]); omega) ?_ | refine br_beq_f (by (try simp only [maxK]); omega) ?_ | refine br_true (by simp only [Bool.and_eq_true, Nat.ble_eq]; (try simp only []); omega) ?_ | (refine br_ble (fun h => ?_) (fun h => ?_) <;> (try simp only [] at h)) | (refine br_beq (fun h => ?_) (fun h => ?_) <;> (try simp only [] at h)) | refine br_split (fun h => ?_) (fun h => ?_) | fail) | ((conv => lhs; whnf); first | refine acc4_upd_ok (by omega) ?_ | refine acc4_get_same (by omega) ?_ | refine acc4_get_other (by omega) (by omega) (by omega) ?_ | refine acc4_get_ok (by omega) (by assumption) ?_ | refine opt3_split (fun h => ?_) (fun kind num tl h => ?_) | refine int_split (fun a h => ?_) (fun a h => ?_) | fail))
    all_goals (try (conv => lhs; whnf))
    refine okIf_ok (frz_bool ?_)
    rw [hr, List.drop_eq_nil_of_le hge]
    rfl

end Go.Proofs.YtjljgldgkkfckaaDoor.M

/- For LexNames: is a word among others (slices.Contains). -/
namespace Go.Proofs.YtjljgldgkkfckaaDoor.M
open Go
set_option linter.unusedSimpArgs false
set_option linter.unusedVariables false
variable {ρ : Nat → Value}

/-- Where a word stands. -/
def idxW (l n : Nat) : List (Nat × Nat) → Nat → Int
  | [], _ => .negSucc 0
  | p :: t, i => match isW l n p with
    | true => .ofNat i
    | false => idxW l n t (i + 1)
theorem idx_step {tab : List (Nat × Nat)} {l n i : Nat} (hl : i < tab.length) : idxW l n (tab.drop i) i = (match isW l n (tab.getD i (0, 0)) with | true => Int.ofNat i | false => idxW l n (tab.drop (i + 1)) (i + 1)) := by
  rw [List.drop_eq_getElem_cons hl, List.getD_eq_getElem?_getD, List.getElem?_eq_getElem hl]
  rfl
theorem idx_any : ∀ (t : List (Nat × Nat)) (l n i : Nat), t.any (isW l n) = true ∧ (∃ k, idxW l n t i = .ofNat k) ∨ t.any (isW l n) = false ∧ idxW l n t i = .negSucc 0
  | [], l, n, i => .inr ⟨rfl, rfl⟩
  | p :: t, l, n, i => by
    rw [List.any_cons]
    cases h : isW l n p with
    | true => exact .inl ⟨rfl, i, by simp [idxW, h]⟩
    | false =>
      have := idx_any t l n (i + 1)
      simpa [idxW, h] using this

attribute [local irreducible] forceN forceZ forceB okIf roundsK valK rowAt
set_option maxRecDepth 100000

set_option maxHeartbeats 4000000 in
theorem index_says (tab : List (Nat × Nat)) (len n : Nat) (hl : len ≤ 140737488355328) (ht : tab.length ≤ 140737488355328) : Says ρ Tryd.prog 41 [.ro 1 (tab.map fun p => [.ps p.1 p.2]), .ps len n] (.int .i64 (idxW len n tab 0)) := by
  have hkm : (tab.map fun p => [V.ps p.1 p.2]).length = tab.length := by simp
  refine says_run (call := call0) follows globL_ok call0_ok (arg2 rfl rfl) ?_
  repeat' (first | ((conv => lhs; whnf); first | ((conv => lhs; arg 1; whnf); refine valK_ok ?_) | refine forceB_ok ?_ | refine forceN_add ?_ | refine forceN_sub ?_ | refine forceN_suc ?_ | refine forceN_part ?_ | refine forceN_byte ?_ | refine forceN_ok ?_ | refine forceZ_add ?_ | refine forceZ_mul (by (try simp only [maxK]); omega) ?_ | refine forceZ_sub ?_ | refine forceZ_ok ?_ | refine rowAt_ok (byteRows_get (by (try simp only [maxK]); omega)) ?_ | (apply rowAt_ok; (focus assumption)) | refine br_true (Nat.beq_refl _) ?_ | refine br_true (by assumption) ?_ | refine br_false (by assumption) ?_ | refine br_max (by (try simp only [maxK]); omega) ?_ | refine br_ble_t (by (try simp only [maxK]); omega) ?_ | refine br_ble_f (by (try simp only [maxK]); omega) ?_ | refine br_beq_f (by (try simp only [maxK]); omega) ?_ | refine br_true (by simp only [Bool.and_eq_true, Nat.ble_eq]; (try simp only []); omega) ?_ | (refine br_ble (fun h => ?_) (fun h => ?_) <;> (try simp only [] at h)) | (refine br_beq (fun h => ?_) (fun h => ?_) <;> (try simp only [] at h)) | refine br_split (fun h => ?_) (fun h => ?_) | fail) | ((conv => lhs; whnf); first | refine acc4_upd_ok (by omega) ?_ | refine acc4_get_same (by omega) ?_ | refine acc4_get_other (by omega) (by omega) (by omega) ?_ | refine acc4_get_ok (by omega) (by assumption) ?_ | refine opt3_split (fun h => ?_) (fun kind num tl h => ?_) | refine int_split (fun a h => ?_) (fun a h => ?_) | fail))
  conv => lhs; whnf
  refine loop_ok (fun m tm hp nx => ∃ i, m = tab.length - i ∧ i ≤ tab.length ∧ idxW len n tab 0 = idxW len n (tab.drop i) i ∧ get2 tm 0 = .ro 1 (tab.map fun p => [.ps p.1 p.2]) ∧ get2 tm 1 = .ps len n ∧ get2 tm 7 = .int .i64 (.ofNat (tab.map fun p => [V.ps p.1 p.2]).length) ∧ get2 tm 8 = .int .i64 (.ofNat i) ∧ get2 tm 255 = .un) (m := tab.length) (by omega)
    ⟨0, rfl, by omega, rfl, rfl, rfl, rfl, rfl, rfl⟩ ?_
  rintro m tm hp nx ⟨i, rfl, hi, hr, e0, e1, e7, e8, e255⟩ k hk
  (obtain ⟨y0, y1, y2, y3, y4, y5, y6, y7, y8, y9, y10, y11, y12, y13, y14, y15⟩ := tm; obtain ⟨x0, x1, x2, x3, x4, x5, x6, x7, x8, x9, x10, x11, x12, x13, x14, x15⟩ := y0; obtain ⟨x16, x17, x18, x19, x20, x21, x22, x23, x24, x25, x26, x27, x28, x29, x30, x31⟩ := y1; obtain ⟨x240, x241, x242, x243, x244, x245, x246, x247, x248, x249, x250, x251, x252, x253, x254, x255⟩ := y15)
  cases e0
  cases e1
  cases e7
  cases e8
  cases e255
  rcases Nat.lt_or_ge i tab.length with hlt | hge
  · have hrow := tab_at hlt
    have hst := idx_step (l := len) (n := n) hlt
    generalize hw : tab.getD i (0, 0) = w at *
    obtain ⟨w1, w2⟩ := w
    repeat' (first | ((conv => lhs; whnf); first | ((conv => lhs; arg 1; whnf); refine valK_ok ?_) | refine forceB_ok ?_ | refine forceN_add ?_ | refine forceN_sub ?_ | refine forceN_suc ?_ | refine forceN_part ?_ | refine forceN_byte ?_ | refine forceN_ok ?_ | refine forceZ_add ?_ | refine forceZ_mul (by (try simp only [maxK]); omega) ?_ | refine forceZ_sub ?_ | refine forceZ_ok ?_ | refine rowAt_ok (byteRows_get (by (try simp only [maxK]); omega)) ?_ | (apply rowAt_ok; (focus assumption)) | refine br_true (Nat.beq_refl _) ?_ | refine br_true (by assumption) ?_ | refine br_false (by assumption) ?_ | refine br_max (by (try simp only [maxK]); omega) ?_ | refine br_ble_t (by (try simp only [maxK]); omega) ?_ | refine br_ble_f (by (try simp only [maxK]); omega) ?_ | refine br_beq_f (by (try simp only [maxK]); omega) ?_ | refine br_true (by simp only [Bool.and_eq_true, Nat.ble_eq]; (try simp only []); omega) ?_ | (refine br_ble (fun h => ?_) (fun h => ?_) <;> (try simp only [] at h)) | (refine br_beq (fun h => ?_) (fun h => ?_) <;> (try simp only [] at h)) | refine br_split (fun h => ?_) (fun h => ?_) | fail) | ((conv => lhs; whnf); first | refine acc4_upd_ok (by omega) ?_ | refine acc4_get_same (by omega) ?_ | refine acc4_get_other (by omega) (by omega) (by omega) ?_ | refine acc4_get_ok (by omega) (by assumption) ?_ | refine opt3_split (fun h => ?_) (fun kind num tl h => ?_) | refine int_split (fun a h => ?_) (fun a h => ?_) | fail))
    all_goals (try (conv => lhs; whnf))
    all_goals first
    | (refine hk _ _ _ _ (by omega) ⟨i + 1, rfl, by omega, ?_, rfl, rfl, rfl, rfl, rfl⟩
       have hf : isW len n (w1, w2) = false := by
         show (Nat.beq len w1 && Nat.beq n w2) = false
         first
         | (rw [beq_false_iff.mpr ‹len ≠ w1›]; rfl)
         | (rw [beq_false_iff.mpr ‹n ≠ w2›, Bool.and_false])
       rw [hr, hst, hf])
    | (refine okIf_ok (frz_int ?_)
       have ht : isW len n (w1, w2) = true := by
         show (Nat.beq len w1 && Nat.beq n w2) = true
         rw [‹len = w1›, ‹n = w2›, Nat.beq_refl, Nat.beq_refl]
         rfl
       rw [hr, hst, ht])
  · repeat' (first | ((conv => lhs; whnf); first | ((conv => lhs; arg 1; whnf); refine valK_ok ?_) | refine forceB_ok ?_ | refine forceN_add ?_ | refine forceN_sub ?_ | refine forceN_suc ?_ | refine forceN_part ?_ | refine forceN_byte ?_ | refine forceN_ok ?_ | refine forceZ_add ?_ | refine forceZ_mul (by (try simp only [maxK]); omega) ?_ | refine forceZ_sub ?_ | refine forceZ_ok ?_ | refine rowAt_ok (byteRows_get (by (try simp only [maxK]); omega)) ?_ | (apply rowAt_ok; (focus assumption)) | refine br_true (Nat.beq_refl _) ?_ | refine br_true (by assumption) ?_ | refine br_false (by assumption) ?_ | refine br_max (by (try simp only [maxK]); omega) ?_ | refine br_ble_t (by (try simp only [maxK]); omega) ?_ | refine br_ble_f (by (try simp only [maxK]); omega) ?_ | refine br_beq_f (by (try simp only [maxK]); omega) ?_ | refine br_true (by simp only [Bool.and_eq_true, Nat.ble_eq]; (try simp only []); omega) ?_ | (refine br_ble (fun h => ?_) (fun h => ?_) <;> (try simp only [] at h)) | (refine br_beq (fun h => ?_) (fun h => ?_) <;> (try simp only [] at h)) | refine br_split (fun h => ?_) (fun h => ?_) | fail) | ((conv => lhs; whnf); first | refine acc4_upd_ok (by omega) ?_ | refine acc4_get_same (by omega) ?_ | refine acc4_get_other (by omega) (by omega) (by omega) ?_ | refine acc4_get_ok (by omega) (by assumption) ?_ | refine opt3_split (fun h => ?_) (fun kind num tl h => ?_) | refine int_split (fun a h => ?_) (fun a h => ?_) | fail))
    all_goals (try (conv => lhs; whnf))
    refine okIf_ok (frz_int ?_)
    rw [hr, List.drop_eq_nil_of_le hge]
    rfl

/-- Index, for one list of words. -/
noncomputable def ovIndex (tab : List (Nat × Nat)) : OvT := fun args _ hp nx kr _ => match args with
  | [.ro 1 rows, .ps len n] => askP (rows = tab.map (fun p => [V.ps p.1 p.2]) ∧ len ≤ 140737488355328) (kr (.int .i64 (idxW len n tab 0)) hp nx)
  | _ => .err 1
theorem ovIndex_ok {tab : List (Nat × Nat)} (ht : tab.length ≤ 140737488355328) : OvOK ρ Tryd.prog 41 (ovIndex tab) := by
  intro args forb hp nx kr kp h0
  unfold ovIndex at h0
  split at h0
  · rename_i rows len n
    obtain ⟨⟨rfl, h2⟩, h3⟩ := askP_inv h0
    refine (index_says tab len n h2 ht (absO hp) nx (inL forb)).mono ?_
    rintro o O m ⟨e1, e2, e3⟩
    subst e1 e2 e3
    exact ⟨hp, rfl, h3⟩
  · exact Ans.no h0

attribute [local irreducible] askP idxW in
set_option maxHeartbeats 4000000 in
theorem contains_says (tab : List (Nat × Nat)) (len n : Nat) (hl : len ≤ 140737488355328) (ht : tab.length ≤ 140737488355328) : Says ρ Tryd.prog 32 [.ro 1 (tab.map fun p => [.ps p.1 p.2]), .ps len n] (.bool (tab.any (isW len n))) := by
  have hi := idx_any tab len n 0
  refine says_run (call := over 41 (ovIndex tab) call0) follows globL_ok (over_ok (ovIndex_ok ht) call0_ok) (arg2 rfl rfl) ?_
  rcases hi with ⟨h1, j, h2⟩ | ⟨h1, h2⟩
  · rw [h1]
    repeat' (first | ((conv => lhs; whnf); first | ((conv => lhs; arg 1; whnf); refine valK_ok ?_) | refine forceB_ok ?_ | refine forceN_add ?_ | refine forceN_sub ?_ | refine forceN_suc ?_ | refine forceN_part ?_ | refine forceN_byte ?_ | refine forceN_ok ?_ | refine forceZ_add ?_ | refine forceZ_mul (by (try simp only [maxK]); omega) ?_ | refine forceZ_sub ?_ | refine forceZ_ok ?_ | refine rowAt_ok (byteRows_get (by (try simp only [maxK]); omega)) ?_ | (apply rowAt_ok; (focus assumption)) | refine br_true (Nat.beq_refl _) ?_ | refine br_true (by assumption) ?_ | refine br_false (by assumption) ?_ | refine br_max (by (try simp only [maxK]); omega) ?_ | refine br_ble_t (by (try simp only [maxK]); omega) ?_ | refine br_ble_f (by (try simp only [maxK]); omega) ?_ | refine br_beq_f (by (try simp only [maxK]); omega) ?_ | refine br_true (by simp only [Bool.and_eq_true, Nat.ble_eq]; (try simp only []); omega) ?_ | (refine br_ble (fun h => ?_) (fun h => ?_) <;> (try simp only [] at h)) | (refine br_beq (fun h => ?_) (fun h => ?_) <;> (try simp only [] at h)) | refine br_split (fun h => ?_) (fun h => ?_) | fail) | ((conv => lhs; whnf); first | refine acc4_upd_ok (by omega) ?_ | refine acc4_get_same (by omega) ?_ | refine acc4_get_other (by omega) (by omega) (by omega) ?_ | refine acc4_get_ok (by omega) (by assumption) ?_ | refine opt3_split (fun h => ?_) (fun kind num tl h => ?_) | refine int_split (fun a h => ?_) (fun a h => ?_) | fail))
    conv => lhs; whnf
    refine askP_ok ⟨rfl, hl⟩ ?_
    rw [h2]
    repeat' (first | ((conv => lhs; whnf); first | ((conv => lhs; arg 1; whnf); refine valK_ok ?_) | refine forceB_ok ?_ | refine forceN_add ?_ | refine forceN_sub ?_ | refine forceN_suc ?_ | refine forceN_part ?_ | refine forceN_byte ?_ | refine forceN_ok ?_ | refine forceZ_add ?_ | refine forceZ_mul (by (try simp only [maxK]); omega) ?_ | refine forceZ_sub ?_ | refine forceZ_ok ?_ | refine rowAt_ok (byteRows_get (by (try simp only [maxK]); omega)) ?_ | (apply rowAt_ok; (focus assumption)) | refine br_true (Nat.beq_refl _) ?_ | refine br_true (by assumption) ?_ | refine br_false (by assumption) ?_ | refine br_max (by (try simp only [maxK]); omega) ?_ | refine br_ble_t (by (try simp only [maxK]); omega) ?_ | refine br_ble_f (by (try simp only [maxK]); omega) ?_ | refine br_beq_f (by (try simp only [maxK]); omega) ?_ | refine br_true (by simp only [Bool.and_eq_true, Nat.ble_eq]; (try simp only []); omega) ?_ | (refine br_ble (fun h => ?_) (fun h => ?_) <;> (try simp only [] at h)) | (refine br_beq (fun h => ?_) (fun h => ?_) <;> (try simp only [] at h)) | refine br_split (fun h => ?_) (fun h => ?_) | fail) | ((conv => lhs; whnf); first | refine acc4_upd_ok (by omega) ?_ | refine acc4_get_same (by omega) ?_ | refine acc4_get_other (by omega) (by omega) (by omega) ?_ | refine acc4_get_ok (by omega) (by assumption) ?_ | refine opt3_split (fun h => ?_) (fun kind num tl h => ?_) | refine int_split (fun a h => ?_) (fun a h => ?_) | fail))
    all_goals (try (conv => lhs; whnf))
    exact okIf_ok (frz_bool rfl)
  · rw [h1]
    repeat' (first | ((conv => lhs; whnf); first | ((conv => lhs; arg 1; whnf); refine valK_ok ?_) | refine forceB_ok ?_ | refine forceN_add ?_ | refine forceN_sub ?_ | refine forceN_suc ?_ | refine forceN_part ?_ | refine forceN_byte ?_ | refine forceN_ok ?_ | refine forceZ_add ?_ | refine forceZ_mul (by (try simp only [maxK]); omega) ?_ | refine forceZ_sub ?_ | refine forceZ_ok ?_ | refine rowAt_ok (byteRows_get (by (try simp only [maxK]); omega)) ?_ | (apply rowAt_ok; (focus assumption)) | refine br_true (Nat.beq_refl _) ?_ | refine br_true (by assumption) ?_ | refine br_false (by assumption) ?_ | refine br_max (by (try simp only [maxK]); omega) ?_ | refine br_ble_t (by (try simp only [maxK]); omega) ?_ | refine br_ble_f (by (try simp only [maxK]); omega) ?_ | refine br_beq_f (by (try simp only [maxK]); omega) ?_ | refine br_true (by simp only [Bool.and_eq_true, Nat.ble_eq]; (try simp only []); omega) ?_ | (refine br_ble (fun h => ?_) (fun h => ?_) <;> (try simp only [] at h)) | (refine br_beq (fun h => ?_) (fun h => ?_) <;> (try simp only [] at h)) | refine br_split (fun h => ?_) (fun h => ?_) | fail) | ((conv => lhs; whnf); first | refine acc4_upd_ok (by omega) ?_ | refine acc4_get_same (by omega) ?_ | refine acc4_get_other (by omega) (by omega) (by omega) ?_ | refine acc4_get_ok (by omega) (by assumption) ?_ | refine opt3_split (fun h => ?_) (fun kind num tl h => ?_) | refine int_split (fun a h => ?_) (fun a h => ?_) | fail))
    conv => lhs; whnf
    refine askP_ok ⟨rfl, hl⟩ ?_
    rw [h2]
    repeat' (first | ((conv => lhs; whnf); first | ((conv => lhs; arg 1; whnf); refine valK_ok ?_) | refine forceB_ok ?_ | refine forceN_add ?_ | refine forceN_sub ?_ | refine forceN_suc ?_ | refine forceN_part ?_ | refine forceN_byte ?_ | refine forceN_ok ?_ | refine forceZ_add ?_ | refine forceZ_mul (by (try simp only [maxK]); omega) ?_ | refine forceZ_sub ?_ | refine forceZ_ok ?_ | refine rowAt_ok (byteRows_get (by (try simp only [maxK]); omega)) ?_ | (apply rowAt_ok; (focus assumption)) | refine br_true (Nat.beq_refl _) ?_ | refine br_true (by assumption) ?_ | refine br_false (by assumption) ?_ | refine br_max (by (try simp only [maxK]); omega) ?_ | refine br_ble_t (by (try simp only [maxK]); omega) ?_ | refine br_ble_f (by (try simp only [maxK]); omega) ?_ | refine br_beq_f (by (try simp only [maxK]); omega) ?_ | refine br_true (by simp only [Bool.and_eq_true, Nat.ble_eq]; (try simp only []); omega) ?_ | (refine br_ble (fun h => ?_) (fun h => ?_) <;> (try simp only [] at h)) | (refine br_beq (fun h => ?_) (fun h => ?_) <;> (try simp only [] at h)) | refine br_split (fun h => ?_) (fun h => ?_) | fail) | ((conv => lhs; whnf); first | refine acc4_upd_ok (by omega) ?_ | refine acc4_get_same (by omega) ?_ | refine acc4_get_other (by omega) (by omega) (by omega) ?_ | refine acc4_get_ok (by omega) (by assumption) ?_ | refine opt3_split (fun h => ?_) (fun kind num tl h => ?_) | refine int_split (fun a h => ?_) (fun a h => ?_) | fail))
    all_goals (try (conv => lhs; whnf))
    exact okIf_ok (frz_bool rfl)

end Go.Proofs.YtjljgldgkkfckaaDoor.M

/- LexNames, once strings.Fields is told. -/
namespace Go.Proofs.YtjljgldgkkfckaaDoor.M
open Go
set_option linter.unusedSimpArgs false
set_option linter.unusedVariables false
variable {ρ : Nat → Value}

def keysN : Nat := 87763639457604419360672521790547939781584025823648649163781033715831281697000981908506759742293375392595119302019499681933711561941857393343782155848846502153202115655288514420360027375740662439317617673291519912426664250442951207510617883689969162399520891946893920055213434953597667928921718948193029313902706773704014243895407469
/-- What Fields answers of the key words' text. -/
def FieldsTold (ρ : Nat → Value) : Prop := Says ρ Tryd.prog 33 [.ps 138 keysN] (.ro 1 (ktab.map fun p => [.ps p.1 p.2]))

noncomputable def ovFields : OvT := fun args _ hp nx kr _ => match args with
  | [.ps l x] => must (Nat.beq l 138) (must (Nat.beq x keysN) (kr (.ro 1 (ktab.map fun p => [.ps p.1 p.2])) hp nx))
  | _ => .err 1
theorem ovFields_ok (hF : FieldsTold ρ) : OvOK ρ Tryd.prog 33 ovFields := by
  intro args forb hp nx kr kp h0
  unfold ovFields at h0
  split at h0
  · rename_i l x
    obtain ⟨h1, g1⟩ := must_inv h0
    obtain ⟨h2, g2⟩ := must_inv g1
    replace h1 := Nat.eq_of_beq_eq_true h1
    replace h2 := Nat.eq_of_beq_eq_true h2
    subst h1 h2
    refine (hF (absO hp) nx (inL forb)).mono ?_
    rintro o O m ⟨e1, e2, e3⟩
    subst e1 e2 e3
    exact ⟨hp, rfl, g2⟩
  · exact Ans.no h0

noncomputable def ovContains (tab : List (Nat × Nat)) : OvT := fun args _ hp nx kr _ => match args with
  | [.ro 1 rows, .ps len n] => askP (rows = tab.map (fun p => [V.ps p.1 p.2]) ∧ len ≤ 140737488355328) (boolK (tab.any (isW len n)) (kr (.bool true) hp nx) (kr (.bool false) hp nx))
  | _ => .err 1
theorem ovContains_ok {tab : List (Nat × Nat)} (ht : tab.length ≤ 140737488355328) : OvOK ρ Tryd.prog 32 (ovContains tab) := by
  intro args forb hp nx kr kp h0
  unfold ovContains at h0
  split at h0
  · rename_i rows len n
    obtain ⟨⟨rfl, h2⟩, h3⟩ := askP_inv h0
    refine (contains_says tab len n h2 ht (absO hp) nx (inL forb)).mono ?_
    rintro o O m ⟨e1, e2, e3⟩
    subst e1 e2 e3
    rcases boolK_inv h3 with ⟨h4, h5⟩ | ⟨h4, h5⟩ <;> rw [h4] <;> exact ⟨hp, rfl, h5⟩
  · exact Ans.no h0

noncomputable def ovW (p : Nat → Nat → Bool) : OvT := ovF fun
  | [.ps len n] => some (Nat.ble len 140737488355328, .bool (p len n))
  | _ => none
theorem ovW_ok {p : Nat → Nat → Bool} {f : FuncId} (hs : ∀ len n, len ≤ 140737488355328 → Says ρ Tryd.prog f [.ps len n] (.bool (p len n))) : OvOK ρ Tryd.prog f (ovW p) := ov_says fun args v h => by
  split at h
  · injection h with h
    injection h with g1 g2
    subst g2
    exact hs _ _ (Nat.le_of_ble_eq_true g1)
  · cases h

theorem keys_words : (ktab.all fun p => wordM p.1 p.2) = true := by decide +kernel
/-- A key word is a word. -/
theorem key_word {l n : Nat} (h : keyM l n = true) : wordM l n = true := by
  unfold keyM at h
  obtain ⟨p, hp, hw⟩ := List.any_eq_true.mp h
  unfold isW at hw
  simp only [Bool.and_eq_true, Nat.beq_eq] at hw
  rw [hw.1, hw.2]
  exact List.all_eq_true.mp keys_words p hp

attribute [local irreducible] forceN forceZ forceB okIf roundsK valK rowAt
attribute [local irreducible] askP wordM keyM toksF
set_option maxRecDepth 100000

def lkeyM (l n : Nat) : Bool := wordM l n && keyM l n
def lnameM (l n : Nat) : Bool := wordM l n && !lkeyM l n

set_option maxHeartbeats 4000000 in
theorem lkey_says (hF : FieldsTold ρ) (len n : Nat) (hl : len ≤ 140737488355328) : Says ρ Tryd.prog 18 [.ps len n] (.bool (lkeyM len n)) := by
  have hk : ktab.any (isW len n) = keyM len n := by unfold keyM; rfl
  refine says_run (call := over 15 (ovW wordM) (over 33 ovFields (over 32 (ovContains ktab) call0))) follows globL_ok (over_ok (ovW_ok word_says) (over_ok (ovFields_ok hF) (over_ok (ovContains_ok (by decide)) call0_ok))) (arg1 rfl) ?_
  unfold lkeyM
  rw [← hk]
  repeat' (first | ((conv => lhs; whnf); first | ((conv => lhs; arg 1; whnf); refine valK_ok ?_) | refine forceB_ok ?_ | refine forceN_add ?_ | refine forceN_sub ?_ | refine forceN_suc ?_ | refine forceN_part ?_ | refine forceN_byte ?_ | refine forceN_ok ?_ | refine forceZ_add ?_ | refine forceZ_mul (by (try simp only [maxK]); omega) ?_ | refine forceZ_sub ?_ | refine forceZ_ok ?_ | refine rowAt_ok (byteRows_get (by (try simp only [maxK]); omega)) ?_ | (apply rowAt_ok; (focus assumption)) | refine br_true (Nat.beq_refl _) ?_ | refine br_true (by assumption) ?_ | refine br_false (by assumption) ?_ | refine br_max (by (try simp only [maxK]); omega) ?_ | refine br_ble_t (by (try simp only [maxK]); omega) ?_ | refine br_ble_f (by (try simp only [maxK]); omega) ?_ | refine br_beq_f (by (try simp only [maxK]); omega) ?_ | refine br_true (by simp only [Bool.and_eq_true, Nat.ble_eq]; (try simp only []); omega) ?_ | (refine br_ble (fun h => ?_) (fun h => ?_) <;> (try simp only [] at h)) | (refine br_beq (fun h => ?_) (fun h => ?_) <;> (try simp only [] at h)) | refine br_split (fun h => ?_) (fun h => ?_) | fail) | ((conv => lhs; whnf); first | refine acc4_upd_ok (by omega) ?_ | refine acc4_get_same (by omega) ?_ | refine acc4_get_other (by omega) (by omega) (by omega) ?_ | refine acc4_get_ok (by omega) (by assumption) ?_ | refine opt3_split (fun h => ?_) (fun kind num tl h => ?_) | refine int_split (fun a h => ?_) (fun a h => ?_) | fail))
  all_goals (try (conv => lhs; whnf))
  · refine askP_ok ⟨rfl, hl⟩ ?_
    repeat' (first | ((conv => lhs; whnf); first | ((conv => lhs; arg 1; whnf); refine valK_ok ?_) | refine forceB_ok ?_ | refine forceN_add ?_ | refine forceN_sub ?_ | refine forceN_suc ?_ | refine forceN_part ?_ | refine forceN_byte ?_ | refine forceN_ok ?_ | refine forceZ_add ?_ | refine forceZ_mul (by (try simp only [maxK]); omega) ?_ | refine forceZ_sub ?_ | refine forceZ_ok ?_ | refine rowAt_ok (byteRows_get (by (try simp only [maxK]); omega)) ?_ | (apply rowAt_ok; (focus assumption)) | refine br_true (Nat.beq_refl _) ?_ | refine br_true (by assumption) ?_ | refine br_false (by assumption) ?_ | refine br_max (by (try simp only [maxK]); omega) ?_ | refine br_ble_t (by (try simp only [maxK]); omega) ?_ | refine br_ble_f (by (try simp only [maxK]); omega) ?_ | refine br_beq_f (by (try simp only [maxK]); omega) ?_ | refine br_true (by simp only [Bool.and_eq_true, Nat.ble_eq]; (try simp only []); omega) ?_ | (refine br_ble (fun h => ?_) (fun h => ?_) <;> (try simp only [] at h)) | (refine br_beq (fun h => ?_) (fun h => ?_) <;> (try simp only [] at h)) | refine br_split (fun h => ?_) (fun h => ?_) | fail) | ((conv => lhs; whnf); first | refine acc4_upd_ok (by omega) ?_ | refine acc4_get_same (by omega) ?_ | refine acc4_get_other (by omega) (by omega) (by omega) ?_ | refine acc4_get_ok (by omega) (by assumption) ?_ | refine opt3_split (fun h => ?_) (fun kind num tl h => ?_) | refine int_split (fun a h => ?_) (fun a h => ?_) | fail))
    all_goals (try (conv => lhs; whnf))
    all_goals exact okIf_ok (frz_bool (by simp_all))
  · exact okIf_ok (frz_bool (by rw [h]; rfl))

set_option maxHeartbeats 4000000 in
theorem lname_says (hF : FieldsTold ρ) (len n : Nat) (hl : len ≤ 140737488355328) : Says ρ Tryd.prog 20 [.ps len n] (.bool (lnameM len n)) := by
  refine says_run (call := over 15 (ovW wordM) (over 18 (ovW lkeyM) call0)) follows globL_ok (over_ok (ovW_ok word_says) (over_ok (ovW_ok (lkey_says hF)) call0_ok)) (arg1 rfl) ?_
  unfold lnameM
  repeat' (first | ((conv => lhs; whnf); first | ((conv => lhs; arg 1; whnf); refine valK_ok ?_) | refine forceB_ok ?_ | refine forceN_add ?_ | refine forceN_sub ?_ | refine forceN_suc ?_ | refine forceN_part ?_ | refine forceN_byte ?_ | refine forceN_ok ?_ | refine forceZ_add ?_ | refine forceZ_mul (by (try simp only [maxK]); omega) ?_ | refine forceZ_sub ?_ | refine forceZ_ok ?_ | refine rowAt_ok (byteRows_get (by (try simp only [maxK]); omega)) ?_ | (apply rowAt_ok; (focus assumption)) | refine br_true (Nat.beq_refl _) ?_ | refine br_true (by assumption) ?_ | refine br_false (by assumption) ?_ | refine br_max (by (try simp only [maxK]); omega) ?_ | refine br_ble_t (by (try simp only [maxK]); omega) ?_ | refine br_ble_f (by (try simp only [maxK]); omega) ?_ | refine br_beq_f (by (try simp only [maxK]); omega) ?_ | refine br_true (by simp only [Bool.and_eq_true, Nat.ble_eq]; (try simp only []); omega) ?_ | (refine br_ble (fun h => ?_) (fun h => ?_) <;> (try simp only [] at h)) | (refine br_beq (fun h => ?_) (fun h => ?_) <;> (try simp only [] at h)) | refine br_split (fun h => ?_) (fun h => ?_) | fail) | ((conv => lhs; whnf); first | refine acc4_upd_ok (by omega) ?_ | refine acc4_get_same (by omega) ?_ | refine acc4_get_other (by omega) (by omega) (by omega) ?_ | refine acc4_get_ok (by omega) (by assumption) ?_ | refine opt3_split (fun h => ?_) (fun kind num tl h => ?_) | refine int_split (fun a h => ?_) (fun a h => ?_) | fail))
  all_goals (try (conv => lhs; whnf))
  all_goals exact okIf_ok (frz_bool (by simp_all))

end Go.Proofs.YtjljgldgkkfckaaDoor.M

/- strings.Fields of the key words: a run. -/
namespace Go.Proofs.YtjljgldgkkfckaaDoor.M
open Go
set_option linter.unusedSimpArgs false
set_option linter.unusedVariables false
variable {ρ : Nat → Value}

set_option maxRecDepth 100000 in
theorem fields_told : FieldsTold ρ :=
  says_told (call := call0) follows globL_ok call0_ok (arg1 rfl) (by kernel_rfl)

end Go.Proofs.YtjljgldgkkfckaaDoor.M

/- columbarykeep.Copy. -/
namespace Go.Proofs.YtjljgldgkkfckaaDoor.M
open Go
set_option linter.unusedSimpArgs false
set_option linter.unusedVariables false
variable {ρ : Nat → Value}

/-- Numbers in new memory. -/
def newV : List Int → V
  | [] => .sc (.slice none 0 0)
  | z :: t => .ro 1 ((z :: t).map pickRow)
theorem picks_flat {l : List Int} : ∀ row ∈ l.map pickRow, ∀ q ∈ row, q.flat = true ∧ q.one = true := fun row hr q hq => by
  obtain ⟨z, _, rfl⟩ := List.mem_map.mp hr
  simp [pickRow] at hq
  subst hq
  exact ⟨rfl, rfl⟩

attribute [local irreducible] forceN forceZ forceB okIf roundsK valK rowAt
attribute [local irreducible] acc4 get4 put4
set_option maxRecDepth 100000

set_option maxHeartbeats 4000000 in
theorem copy_says (zs : List Int) (hz : zs.length ≤ 2) : Says ρ Tryd.prog 29 [.ro 1 (zs.map pickRow)] (newV zs) := by
  refine says_run (call := call0) follows globL_ok call0_ok (arg1 rfl) ?_
  match zs, hz with
  | [], _ =>
    repeat' (first | ((conv => lhs; whnf); first | ((conv => lhs; arg 1; whnf); refine valK_ok ?_) | refine forceB_ok ?_ | refine forceN_add ?_ | refine forceN_sub ?_ | refine forceN_suc ?_ | refine forceN_part ?_ | refine forceN_byte ?_ | refine forceN_ok ?_ | refine forceZ_add ?_ | refine forceZ_mul (by (try simp only [maxK]); omega) ?_ | refine forceZ_sub ?_ | refine forceZ_ok ?_ | refine rowAt_ok (byteRows_get (by (try simp only [maxK]); omega)) ?_ | (apply rowAt_ok; (focus assumption)) | refine br_true (Nat.beq_refl _) ?_ | refine br_true (by assumption) ?_ | refine br_false (by assumption) ?_ | refine br_max (by (try simp only [maxK]); omega) ?_ | refine br_ble_t (by (try simp only [maxK]); omega) ?_ | refine br_ble_f (by (try simp only [maxK]); omega) ?_ | refine br_beq_f (by (try simp only [maxK]); omega) ?_ | refine br_true (by simp only [Bool.and_eq_true, Nat.ble_eq]; (try simp only []); omega) ?_ | (refine br_ble (fun h => ?_) (fun h => ?_) <;> (try simp only [] at h)) | (refine br_beq (fun h => ?_) (fun h => ?_) <;> (try simp only [] at h)) | refine br_split (fun h => ?_) (fun h => ?_) | fail) | ((conv => lhs; whnf); first | refine acc4_upd_ok (by omega) ?_ | refine acc4_get_same (by omega) ?_ | refine acc4_get_other (by omega) (by omega) (by omega) ?_ | refine acc4_get_ok (by omega) (by assumption) ?_ | refine opt3_split (fun h => ?_) (fun kind num tl h => ?_) | refine int_split (fun a h => ?_) (fun a h => ?_) | fail))
    all_goals (try (conv => lhs; whnf))
    exact okIf_ok (.flat _ rfl)
  | [a], _ =>
    repeat' (first | ((conv => lhs; whnf); first | ((conv => lhs; arg 1; whnf); refine valK_ok ?_) | refine forceB_ok ?_ | refine forceN_add ?_ | refine forceN_sub ?_ | refine forceN_suc ?_ | refine forceN_part ?_ | refine forceN_byte ?_ | refine forceN_ok ?_ | refine forceZ_add ?_ | refine forceZ_mul (by (try simp only [maxK]); omega) ?_ | refine forceZ_sub ?_ | refine forceZ_ok ?_ | refine rowAt_ok (byteRows_get (by (try simp only [maxK]); omega)) ?_ | (apply rowAt_ok; (focus assumption)) | refine br_true (Nat.beq_refl _) ?_ | refine br_true (by assumption) ?_ | refine br_false (by assumption) ?_ | refine br_max (by (try simp only [maxK]); omega) ?_ | refine br_ble_t (by (try simp only [maxK]); omega) ?_ | refine br_ble_f (by (try simp only [maxK]); omega) ?_ | refine br_beq_f (by (try simp only [maxK]); omega) ?_ | refine br_true (by simp only [Bool.and_eq_true, Nat.ble_eq]; (try simp only []); omega) ?_ | (refine br_ble (fun h => ?_) (fun h => ?_) <;> (try simp only [] at h)) | (refine br_beq (fun h => ?_) (fun h => ?_) <;> (try simp only [] at h)) | refine br_split (fun h => ?_) (fun h => ?_) | fail) | ((conv => lhs; whnf); first | refine acc4_upd_ok (by omega) ?_ | refine acc4_get_same (by omega) ?_ | refine acc4_get_other (by omega) (by omega) (by omega) ?_ | refine acc4_get_ok (by omega) (by assumption) ?_ | refine opt3_split (fun h => ?_) (fun kind num tl h => ?_) | refine int_split (fun a h => ?_) (fun a h => ?_) | fail))
    all_goals (try (conv => lhs; whnf))
    exact okIf_ok (frz_ls (by omega) rfl rfl rfl picks_flat)
  | [a, b], _ =>
    repeat' (first | ((conv => lhs; whnf); first | ((conv => lhs; arg 1; whnf); refine valK_ok ?_) | refine forceB_ok ?_ | refine forceN_add ?_ | refine forceN_sub ?_ | refine forceN_suc ?_ | refine forceN_part ?_ | refine forceN_byte ?_ | refine forceN_ok ?_ | refine forceZ_add ?_ | refine forceZ_mul (by (try simp only [maxK]); omega) ?_ | refine forceZ_sub ?_ | refine forceZ_ok ?_ | refine rowAt_ok (byteRows_get (by (try simp only [maxK]); omega)) ?_ | (apply rowAt_ok; (focus assumption)) | refine br_true (Nat.beq_refl _) ?_ | refine br_true (by assumption) ?_ | refine br_false (by assumption) ?_ | refine br_max (by (try simp only [maxK]); omega) ?_ | refine br_ble_t (by (try simp only [maxK]); omega) ?_ | refine br_ble_f (by (try simp only [maxK]); omega) ?_ | refine br_beq_f (by (try simp only [maxK]); omega) ?_ | refine br_true (by simp only [Bool.and_eq_true, Nat.ble_eq]; (try simp only []); omega) ?_ | (refine br_ble (fun h => ?_) (fun h => ?_) <;> (try simp only [] at h)) | (refine br_beq (fun h => ?_) (fun h => ?_) <;> (try simp only [] at h)) | refine br_split (fun h => ?_) (fun h => ?_) | fail) | ((conv => lhs; whnf); first | refine acc4_upd_ok (by omega) ?_ | refine acc4_get_same (by omega) ?_ | refine acc4_get_other (by omega) (by omega) (by omega) ?_ | refine acc4_get_ok (by omega) (by assumption) ?_ | refine opt3_split (fun h => ?_) (fun kind num tl h => ?_) | refine int_split (fun a h => ?_) (fun a h => ?_) | fail))
    all_goals (try (conv => lhs; whnf))
    exact okIf_ok (frz_ls (by omega) rfl rfl rfl picks_flat)

noncomputable def ovCopy : OvT := fun args _ hp nx kr _ => match args with
  | [.ro 1 rows] => askP (rows = (rows.map pickOf).map pickRow ∧ rows.length ≤ 2) (kr (newV (rows.map pickOf)) hp nx)
  | _ => .err 1
theorem ovCopy_ok : OvOK ρ Tryd.prog 29 ovCopy := by
  intro args forb hp nx kr kp h0
  unfold ovCopy at h0
  split at h0
  · rename_i rows
    obtain ⟨⟨h1, h2⟩, h3⟩ := askP_inv h0
    have hs := copy_says (ρ := ρ) (rows.map pickOf) (by simpa using h2)
    rw [← h1] at hs
    refine (hs (absO hp) nx (inL forb)).mono ?_
    rintro o O m ⟨e1, e2, e3⟩
    subst e1 e2 e3
    exact ⟨hp, rfl, h3⟩
  · exact Ans.no h0

end Go.Proofs.YtjljgldgkkfckaaDoor.M

/- columbarykeep.Cut; a text of no numbers. -/
namespace Go.Proofs.YtjljgldgkkfckaaDoor.M
open Go
set_option linter.unusedSimpArgs false
set_option linter.unusedVariables false
variable {ρ : Nat → Value}

attribute [local irreducible] forceN forceZ forceB okIf roundsK valK rowAt
attribute [local irreducible] askP acc4 get4 put4 withinN
set_option maxRecDepth 100000

theorem newV_arg (l : List Int) : Arg2 [] (newV l) (newV l) := by
  cases l <;> exact .flat _ rfl
theorem newV_frz (N : Nat → Prop) (O : Objs) (l : List Int) : Frz N O (newV l) (newV l) := by
  cases l <;> exact .flat _ rfl

set_option maxHeartbeats 4000000 in
theorem cut_says (zs : List Int) (hz : zs.length ≤ 140737488355328) : Says ρ Tryd.prog 16 [.ro 1 (zs.map pickRow), .int .i64 (.ofNat 2)] (newV (zs.take 2)) := by
  refine says_run (call := over 29 ovCopy call0) follows globL_ok (over_ok ovCopy_ok call0_ok) (arg2 rfl rfl) ?_
  match zs, hz with
  | [], _ =>
    repeat' (first | ((conv => lhs; whnf); first | ((conv => lhs; arg 1; whnf); refine valK_ok ?_) | refine forceB_ok ?_ | refine forceN_add ?_ | refine forceN_sub ?_ | refine forceN_suc ?_ | refine forceN_part ?_ | refine forceN_byte ?_ | refine forceN_ok ?_ | refine forceZ_add ?_ | refine forceZ_mul (by (try simp only [maxK]); omega) ?_ | refine forceZ_sub ?_ | refine forceZ_ok ?_ | refine rowAt_ok (byteRows_get (by (try simp only [maxK]); omega)) ?_ | (apply rowAt_ok; (focus assumption)) | refine br_true (Nat.beq_refl _) ?_ | refine br_true (by assumption) ?_ | refine br_false (by assumption) ?_ | refine br_max (by (try simp only [maxK]); omega) ?_ | refine br_ble_t (by (try simp only [maxK]); omega) ?_ | refine br_ble_f (by (try simp only [maxK]); omega) ?_ | refine br_beq_f (by (try simp only [maxK]); omega) ?_ | refine br_true (by simp only [Bool.and_eq_true, Nat.ble_eq]; (try simp only []); omega) ?_ | (refine br_ble (fun h => ?_) (fun h => ?_) <;> (try simp only [] at h)) | (refine br_beq (fun h => ?_) (fun h => ?_) <;> (try simp only [] at h)) | refine br_split (fun h => ?_) (fun h => ?_) | fail) | ((conv => lhs; whnf); first | refine acc4_upd_ok (by omega) ?_ | refine acc4_get_same (by omega) ?_ | refine acc4_get_other (by omega) (by omega) (by omega) ?_ | refine acc4_get_ok (by omega) (by assumption) ?_ | refine opt3_split (fun h => ?_) (fun kind num tl h => ?_) | refine int_split (fun a h => ?_) (fun a h => ?_) | fail))
    all_goals (try (conv => lhs; whnf))
    refine askP_ok ⟨rfl, by simp⟩ ?_
    repeat' (first | ((conv => lhs; whnf); first | ((conv => lhs; arg 1; whnf); refine valK_ok ?_) | refine forceB_ok ?_ | refine forceN_add ?_ | refine forceN_sub ?_ | refine forceN_suc ?_ | refine forceN_part ?_ | refine forceN_byte ?_ | refine forceN_ok ?_ | refine forceZ_add ?_ | refine forceZ_mul (by (try simp only [maxK]); omega) ?_ | refine forceZ_sub ?_ | refine forceZ_ok ?_ | refine rowAt_ok (byteRows_get (by (try simp only [maxK]); omega)) ?_ | (apply rowAt_ok; (focus assumption)) | refine br_true (Nat.beq_refl _) ?_ | refine br_true (by assumption) ?_ | refine br_false (by assumption) ?_ | refine br_max (by (try simp only [maxK]); omega) ?_ | refine br_ble_t (by (try simp only [maxK]); omega) ?_ | refine br_ble_f (by (try simp only [maxK]); omega) ?_ | refine br_beq_f (by (try simp only [maxK]); omega) ?_ | refine br_true (by simp only [Bool.and_eq_true, Nat.ble_eq]; (try simp only []); omega) ?_ | (refine br_ble (fun h => ?_) (fun h => ?_) <;> (try simp only [] at h)) | (refine br_beq (fun h => ?_) (fun h => ?_) <;> (try simp only [] at h)) | refine br_split (fun h => ?_) (fun h => ?_) | fail) | ((conv => lhs; whnf); first | refine acc4_upd_ok (by omega) ?_ | refine acc4_get_same (by omega) ?_ | refine acc4_get_other (by omega) (by omega) (by omega) ?_ | refine acc4_get_ok (by omega) (by assumption) ?_ | refine opt3_split (fun h => ?_) (fun kind num tl h => ?_) | refine int_split (fun a h => ?_) (fun a h => ?_) | fail))
    all_goals (try (conv => lhs; whnf))
    exact okIf_ok (.flat _ rfl)
  | [a], _ =>
    repeat' (first | ((conv => lhs; whnf); first | ((conv => lhs; arg 1; whnf); refine valK_ok ?_) | refine forceB_ok ?_ | refine forceN_add ?_ | refine forceN_sub ?_ | refine forceN_suc ?_ | refine forceN_part ?_ | refine forceN_byte ?_ | refine forceN_ok ?_ | refine forceZ_add ?_ | refine forceZ_mul (by (try simp only [maxK]); omega) ?_ | refine forceZ_sub ?_ | refine forceZ_ok ?_ | refine rowAt_ok (byteRows_get (by (try simp only [maxK]); omega)) ?_ | (apply rowAt_ok; (focus assumption)) | refine br_true (Nat.beq_refl _) ?_ | refine br_true (by assumption) ?_ | refine br_false (by assumption) ?_ | refine br_max (by (try simp only [maxK]); omega) ?_ | refine br_ble_t (by (try simp only [maxK]); omega) ?_ | refine br_ble_f (by (try simp only [maxK]); omega) ?_ | refine br_beq_f (by (try simp only [maxK]); omega) ?_ | refine br_true (by simp only [Bool.and_eq_true, Nat.ble_eq]; (try simp only []); omega) ?_ | (refine br_ble (fun h => ?_) (fun h => ?_) <;> (try simp only [] at h)) | (refine br_beq (fun h => ?_) (fun h => ?_) <;> (try simp only [] at h)) | refine br_split (fun h => ?_) (fun h => ?_) | fail) | ((conv => lhs; whnf); first | refine acc4_upd_ok (by omega) ?_ | refine acc4_get_same (by omega) ?_ | refine acc4_get_other (by omega) (by omega) (by omega) ?_ | refine acc4_get_ok (by omega) (by assumption) ?_ | refine opt3_split (fun h => ?_) (fun kind num tl h => ?_) | refine int_split (fun a h => ?_) (fun a h => ?_) | fail))
    all_goals (try (conv => lhs; whnf))
    refine askP_ok ⟨rfl, by simp⟩ ?_
    repeat' (first | ((conv => lhs; whnf); first | ((conv => lhs; arg 1; whnf); refine valK_ok ?_) | refine forceB_ok ?_ | refine forceN_add ?_ | refine forceN_sub ?_ | refine forceN_suc ?_ | refine forceN_part ?_ | refine forceN_byte ?_ | refine forceN_ok ?_ | refine forceZ_add ?_ | refine forceZ_mul (by (try simp only [maxK]); omega) ?_ | refine forceZ_sub ?_ | refine forceZ_ok ?_ | refine rowAt_ok (byteRows_get (by (try simp only [maxK]); omega)) ?_ | (apply rowAt_ok; (focus assumption)) | refine br_true (Nat.beq_refl _) ?_ | refine br_true (by assumption) ?_ | refine br_false (by assumption) ?_ | refine br_max (by (try simp only [maxK]); omega) ?_ | refine br_ble_t (by (try simp only [maxK]); omega) ?_ | refine br_ble_f (by (try simp only [maxK]); omega) ?_ | refine br_beq_f (by (try simp only [maxK]); omega) ?_ | refine br_true (by simp only [Bool.and_eq_true, Nat.ble_eq]; (try simp only []); omega) ?_ | (refine br_ble (fun h => ?_) (fun h => ?_) <;> (try simp only [] at h)) | (refine br_beq (fun h => ?_) (fun h => ?_) <;> (try simp only [] at h)) | refine br_split (fun h => ?_) (fun h => ?_) | fail) | ((conv => lhs; whnf); first | refine acc4_upd_ok (by omega) ?_ | refine acc4_get_same (by omega) ?_ | refine acc4_get_other (by omega) (by omega) (by omega) ?_ | refine acc4_get_ok (by omega) (by assumption) ?_ | refine opt3_split (fun h => ?_) (fun kind num tl h => ?_) | refine int_split (fun a h => ?_) (fun a h => ?_) | fail))
    all_goals (try (conv => lhs; whnf))
    exact okIf_ok (.flat _ rfl)
  | [a, b], _ =>
    repeat' (first | ((conv => lhs; whnf); first | ((conv => lhs; arg 1; whnf); refine valK_ok ?_) | refine forceB_ok ?_ | refine forceN_add ?_ | refine forceN_sub ?_ | refine forceN_suc ?_ | refine forceN_part ?_ | refine forceN_byte ?_ | refine forceN_ok ?_ | refine forceZ_add ?_ | refine forceZ_mul (by (try simp only [maxK]); omega) ?_ | refine forceZ_sub ?_ | refine forceZ_ok ?_ | refine rowAt_ok (byteRows_get (by (try simp only [maxK]); omega)) ?_ | (apply rowAt_ok; (focus assumption)) | refine br_true (Nat.beq_refl _) ?_ | refine br_true (by assumption) ?_ | refine br_false (by assumption) ?_ | refine br_max (by (try simp only [maxK]); omega) ?_ | refine br_ble_t (by (try simp only [maxK]); omega) ?_ | refine br_ble_f (by (try simp only [maxK]); omega) ?_ | refine br_beq_f (by (try simp only [maxK]); omega) ?_ | refine br_true (by simp only [Bool.and_eq_true, Nat.ble_eq]; (try simp only []); omega) ?_ | (refine br_ble (fun h => ?_) (fun h => ?_) <;> (try simp only [] at h)) | (refine br_beq (fun h => ?_) (fun h => ?_) <;> (try simp only [] at h)) | refine br_split (fun h => ?_) (fun h => ?_) | fail) | ((conv => lhs; whnf); first | refine acc4_upd_ok (by omega) ?_ | refine acc4_get_same (by omega) ?_ | refine acc4_get_other (by omega) (by omega) (by omega) ?_ | refine acc4_get_ok (by omega) (by assumption) ?_ | refine opt3_split (fun h => ?_) (fun kind num tl h => ?_) | refine int_split (fun a h => ?_) (fun a h => ?_) | fail))
    all_goals (try (conv => lhs; whnf))
    refine askP_ok ⟨rfl, by simp⟩ ?_
    repeat' (first | ((conv => lhs; whnf); first | ((conv => lhs; arg 1; whnf); refine valK_ok ?_) | refine forceB_ok ?_ | refine forceN_add ?_ | refine forceN_sub ?_ | refine forceN_suc ?_ | refine forceN_part ?_ | refine forceN_byte ?_ | refine forceN_ok ?_ | refine forceZ_add ?_ | refine forceZ_mul (by (try simp only [maxK]); omega) ?_ | refine forceZ_sub ?_ | refine forceZ_ok ?_ | refine rowAt_ok (byteRows_get (by (try simp only [maxK]); omega)) ?_ | (apply rowAt_ok; (focus assumption)) | refine br_true (Nat.beq_refl _) ?_ | refine br_true (by assumption) ?_ | refine br_false (by assumption) ?_ | refine br_max (by (try simp only [maxK]); omega) ?_ | refine br_ble_t (by (try simp only [maxK]); omega) ?_ | refine br_ble_f (by (try simp only [maxK]); omega) ?_ | refine br_beq_f (by (try simp only [maxK]); omega) ?_ | refine br_true (by simp only [Bool.and_eq_true, Nat.ble_eq]; (try simp only []); omega) ?_ | (refine br_ble (fun h => ?_) (fun h => ?_) <;> (try simp only [] at h)) | (refine br_beq (fun h => ?_) (fun h => ?_) <;> (try simp only [] at h)) | refine br_split (fun h => ?_) (fun h => ?_) | fail) | ((conv => lhs; whnf); first | refine acc4_upd_ok (by omega) ?_ | refine acc4_get_same (by omega) ?_ | refine acc4_get_other (by omega) (by omega) (by omega) ?_ | refine acc4_get_ok (by omega) (by assumption) ?_ | refine opt3_split (fun h => ?_) (fun kind num tl h => ?_) | refine int_split (fun a h => ?_) (fun a h => ?_) | fail))
    all_goals (try (conv => lhs; whnf))
    exact okIf_ok (.flat _ rfl)
  | a :: b :: c :: t, hz =>
    have hL : ((a :: b :: c :: t).map pickRow).length = t.length + 3 := by simp
    have hz : t.length + 3 ≤ 140737488355328 := hz
    repeat' (first | ((conv => lhs; whnf); refine forceN_as (t.length + 3) hL ?_) | (first | ((conv => lhs; whnf); first | ((conv => lhs; arg 1; whnf); refine valK_ok ?_) | refine forceB_ok ?_ | refine forceN_add ?_ | refine forceN_sub ?_ | refine forceN_suc ?_ | refine forceN_part ?_ | refine forceN_byte ?_ | refine forceN_ok ?_ | refine forceZ_add ?_ | refine forceZ_mul (by (try simp only [maxK]); omega) ?_ | refine forceZ_sub ?_ | refine forceZ_ok ?_ | refine rowAt_ok (byteRows_get (by (try simp only [maxK]); omega)) ?_ | (apply rowAt_ok; (focus assumption)) | refine br_true (Nat.beq_refl _) ?_ | refine br_true (by assumption) ?_ | refine br_false (by assumption) ?_ | refine br_max (by (try simp only [maxK]); omega) ?_ | refine br_ble_t (by (try simp only [maxK]); omega) ?_ | refine br_ble_f (by (try simp only [maxK]); omega) ?_ | refine br_beq_f (by (try simp only [maxK]); omega) ?_ | refine br_true (by simp only [Bool.and_eq_true, Nat.ble_eq]; (try simp only []); omega) ?_ | (refine br_ble (fun h => ?_) (fun h => ?_) <;> (try simp only [] at h)) | (refine br_beq (fun h => ?_) (fun h => ?_) <;> (try simp only [] at h)) | refine br_split (fun h => ?_) (fun h => ?_) | fail) | ((conv => lhs; whnf); first | refine acc4_upd_ok (by omega) ?_ | refine acc4_get_same (by omega) ?_ | refine acc4_get_other (by omega) (by omega) (by omega) ?_ | refine acc4_get_ok (by omega) (by assumption) ?_ | refine opt3_split (fun h => ?_) (fun kind num tl h => ?_) | refine int_split (fun a h => ?_) (fun a h => ?_) | fail)))
    all_goals (try (conv => lhs; whnf))
    refine askP_ok ⟨rfl, by simp⟩ ?_
    repeat' (first | ((conv => lhs; whnf); first | ((conv => lhs; arg 1; whnf); refine valK_ok ?_) | refine forceB_ok ?_ | refine forceN_add ?_ | refine forceN_sub ?_ | refine forceN_suc ?_ | refine forceN_part ?_ | refine forceN_byte ?_ | refine forceN_ok ?_ | refine forceZ_add ?_ | refine forceZ_mul (by (try simp only [maxK]); omega) ?_ | refine forceZ_sub ?_ | refine forceZ_ok ?_ | refine rowAt_ok (byteRows_get (by (try simp only [maxK]); omega)) ?_ | (apply rowAt_ok; (focus assumption)) | refine br_true (Nat.beq_refl _) ?_ | refine br_true (by assumption) ?_ | refine br_false (by assumption) ?_ | refine br_max (by (try simp only [maxK]); omega) ?_ | refine br_ble_t (by (try simp only [maxK]); omega) ?_ | refine br_ble_f (by (try simp only [maxK]); omega) ?_ | refine br_beq_f (by (try simp only [maxK]); omega) ?_ | refine br_true (by simp only [Bool.and_eq_true, Nat.ble_eq]; (try simp only []); omega) ?_ | (refine br_ble (fun h => ?_) (fun h => ?_) <;> (try simp only [] at h)) | (refine br_beq (fun h => ?_) (fun h => ?_) <;> (try simp only [] at h)) | refine br_split (fun h => ?_) (fun h => ?_) | fail) | ((conv => lhs; whnf); first | refine acc4_upd_ok (by omega) ?_ | refine acc4_get_same (by omega) ?_ | refine acc4_get_other (by omega) (by omega) (by omega) ?_ | refine acc4_get_ok (by omega) (by assumption) ?_ | refine opt3_split (fun h => ?_) (fun kind num tl h => ?_) | refine int_split (fun a h => ?_) (fun a h => ?_) | fail))
    all_goals (try (conv => lhs; whnf))
    exact okIf_ok (.flat _ rfl)

noncomputable def ovCut : OvT := fun args _ hp nx kr _ => match args with
  | [.ro 1 rows, .int .i64 (.ofNat n)] => askP (rows = (rows.map pickOf).map pickRow ∧ rows.length ≤ 140737488355328 ∧ n = 2) (kr (newV ((rows.map pickOf).take 2)) hp nx)
  | _ => .err 1
theorem ovCut_ok : OvOK ρ Tryd.prog 16 ovCut := by
  intro args forb hp nx kr kp h0
  unfold ovCut at h0
  split at h0
  · rename_i rows n
    obtain ⟨⟨h1, h2, h4⟩, h3⟩ := askP_inv h0
    subst h4
    have hs := cut_says (ρ := ρ) (rows.map pickOf) (by simpa using h2)
    rw [← h1] at hs
    refine (hs (absO hp) nx (inL forb)).mono ?_
    rintro o O m ⟨e1, e2, e3⟩
    subst e1 e2 e3
    exact ⟨hp, rfl, h3⟩
  · exact Ans.no h0

set_option maxHeartbeats 4000000 in
theorem text_nil (len n : Nat) (hl : len ≤ 140737488355328) : Says ρ Tryd.prog 9 [.ps len n, .sc (.slice none 0 0)] (.ps (textM len n []).1 (textM len n []).2) := by
  refine says_run (call := over 14 ovWithin (over 8 ovKeep (over 21 ovWords call0))) follows globL_ok (over_ok ovWithin_ok (over_ok ovKeep_ok (over_ok ovWords_ok call0_ok))) (arg2 rfl rfl) ?_
  repeat' (first | ((conv => lhs; whnf); first | ((conv => lhs; arg 1; whnf); refine valK_ok ?_) | refine forceB_ok ?_ | refine forceN_add ?_ | refine forceN_sub ?_ | refine forceN_suc ?_ | refine forceN_part ?_ | refine forceN_byte ?_ | refine forceN_ok ?_ | refine forceZ_add ?_ | refine forceZ_mul (by (try simp only [maxK]); omega) ?_ | refine forceZ_sub ?_ | refine forceZ_ok ?_ | refine rowAt_ok (byteRows_get (by (try simp only [maxK]); omega)) ?_ | (apply rowAt_ok; (focus assumption)) | refine br_true (Nat.beq_refl _) ?_ | refine br_true (by assumption) ?_ | refine br_false (by assumption) ?_ | refine br_max (by (try simp only [maxK]); omega) ?_ | refine br_ble_t (by (try simp only [maxK]); omega) ?_ | refine br_ble_f (by (try simp only [maxK]); omega) ?_ | refine br_beq_f (by (try simp only [maxK]); omega) ?_ | refine br_true (by simp only [Bool.and_eq_true, Nat.ble_eq]; (try simp only []); omega) ?_ | (refine br_ble (fun h => ?_) (fun h => ?_) <;> (try simp only [] at h)) | (refine br_beq (fun h => ?_) (fun h => ?_) <;> (try simp only [] at h)) | refine br_split (fun h => ?_) (fun h => ?_) | fail) | ((conv => lhs; whnf); first | refine acc4_upd_ok (by omega) ?_ | refine acc4_get_same (by omega) ?_ | refine acc4_get_other (by omega) (by omega) (by omega) ?_ | refine acc4_get_ok (by omega) (by assumption) ?_ | refine opt3_split (fun h => ?_) (fun kind num tl h => ?_) | refine int_split (fun a h => ?_) (fun a h => ?_) | fail))
  conv => lhs; whnf
  refine unroll (by unfold rounds0; omega) ?_
  repeat' (first | ((conv => lhs; whnf); first | ((conv => lhs; arg 1; whnf); refine valK_ok ?_) | refine forceB_ok ?_ | refine forceN_add ?_ | refine forceN_sub ?_ | refine forceN_suc ?_ | refine forceN_part ?_ | refine forceN_byte ?_ | refine forceN_ok ?_ | refine forceZ_add ?_ | refine forceZ_mul (by (try simp only [maxK]); omega) ?_ | refine forceZ_sub ?_ | refine forceZ_ok ?_ | refine rowAt_ok (byteRows_get (by (try simp only [maxK]); omega)) ?_ | (apply rowAt_ok; (focus assumption)) | refine br_true (Nat.beq_refl _) ?_ | refine br_true (by assumption) ?_ | refine br_false (by assumption) ?_ | refine br_max (by (try simp only [maxK]); omega) ?_ | refine br_ble_t (by (try simp only [maxK]); omega) ?_ | refine br_ble_f (by (try simp only [maxK]); omega) ?_ | refine br_beq_f (by (try simp only [maxK]); omega) ?_ | refine br_true (by simp only [Bool.and_eq_true, Nat.ble_eq]; (try simp only []); omega) ?_ | (refine br_ble (fun h => ?_) (fun h => ?_) <;> (try simp only [] at h)) | (refine br_beq (fun h => ?_) (fun h => ?_) <;> (try simp only [] at h)) | refine br_split (fun h => ?_) (fun h => ?_) | fail) | ((conv => lhs; whnf); first | refine acc4_upd_ok (by omega) ?_ | refine acc4_get_same (by omega) ?_ | refine acc4_get_other (by omega) (by omega) (by omega) ?_ | refine acc4_get_ok (by omega) (by assumption) ?_ | refine opt3_split (fun h => ?_) (fun kind num tl h => ?_) | refine int_split (fun a h => ?_) (fun a h => ?_) | fail))
  all_goals (try (conv => lhs; whnf))
  exact okIf_ok (frz_ps rfl rfl)

/-- A text of numbers in new memory. -/
theorem text_new (len n : Nat) (zs : List Int) (hl : len ≤ 140737488355328) (hz : zs.length ≤ 140737488355328) : Says ρ Tryd.prog 9 [.ps len n, newV zs] (.ps (textM len n zs).1 (textM len n zs).2) := by
  cases zs with
  | nil => exact text_nil len n hl
  | cons z t => exact text_says len n (z :: t) hl hz

noncomputable def ovTextN (zs : List Int) : OvT := fun args _ hp nx kr _ => match args with
  | [.ps len n, v] => askP (len ≤ 140737488355328 ∧ v = newV zs ∧ zs.length ≤ 140737488355328) (kr (.ps (textM len n zs).1 (textM len n zs).2) hp nx)
  | _ => .err 1
theorem ovTextN_ok {zs : List Int} : OvOK ρ Tryd.prog 9 (ovTextN zs) := by
  intro args forb hp nx kr kp h0
  unfold ovTextN at h0
  split at h0
  · rename_i len n v
    obtain ⟨⟨h1, h2, h3⟩, h4⟩ := askP_inv h0
    subst h2
    refine (text_new len n zs h1 h3 (absO hp) nx (inL forb)).mono ?_
    rintro o O m ⟨e1, e2, e3⟩
    subst e1 e2 e3
    exact ⟨hp, rfl, h4⟩
  · exact Ans.no h0

end Go.Proofs.YtjljgldgkkfckaaDoor.M

/- LexNames. -/
namespace Go.Proofs.YtjljgldgkkfckaaDoor.M
open Go
set_option linter.unusedSimpArgs false
set_option linter.unusedVariables false
variable {ρ : Nat → Value}

theorem lkeyM_eq (l n : Nat) : lkeyM l n = keyM l n := by
  unfold lkeyM
  cases h : keyM l n with
  | false => rw [Bool.and_false]
  | true => rw [key_word h]; rfl

theorem word_cases (l n : Nat) : (wordM l n = false ∧ keyM l n = false ∧ lkeyM l n = false ∧ lnameM l n = false) ∨ (wordM l n = true ∧ keyM l n = false ∧ lkeyM l n = false ∧ lnameM l n = true) ∨ (wordM l n = true ∧ keyM l n = true ∧ lkeyM l n = true ∧ lnameM l n = false) := by
  cases hk : keyM l n with
  | true =>
    have hw := key_word hk
    refine .inr (.inr ⟨hw, rfl, ?_, ?_⟩)
    · unfold lkeyM; rw [hw, hk]; rfl
    · unfold lnameM lkeyM; rw [hw, hk]; rfl
  | false =>
    cases hw : wordM l n with
    | true =>
      refine .inr (.inl ⟨rfl, rfl, ?_, ?_⟩)
      · unfold lkeyM; rw [hw, hk]; rfl
      · unfold lnameM lkeyM; rw [hw, hk]; rfl
    | false =>
      refine .inl ⟨rfl, rfl, ?_, ?_⟩
      · unfold lkeyM; rw [hw]; rfl
      · unfold lnameM; rw [hw]; rfl

attribute [local irreducible] forceN forceZ forceB okIf roundsK valK rowAt
attribute [local irreducible] askP wordM keyM toksF lkeyM lnameM
set_option maxRecDepth 100000

set_option maxHeartbeats 8000000 in
theorem lexNames_says (len n : Nat) (picks : List Int) (hl : len ≤ 140737488355328) (hp : picks.length ≤ 140737488355328) : Says ρ Tryd.prog 7 [.ps len n, .ro 1 (picks.map pickRow)] (.bool true) := by
  have hml : (picks.map pickRow).length ≤ 140737488355328 := by simpa using hp
  have hx := textM_le 0 0 ((((picks.map pickRow).map pickOf)).take 2)
  refine says_run (call := over 16 ovCut (over 9 (ovTextN (((picks.map pickRow).map pickOf).take 2)) (over 15 (ovW wordM) (over 17 (ovW wordM) (over 18 (ovW lkeyM) (over 19 (ovW keyM) (over 20 (ovW lnameM) (over 13 ovWakes call0)))))))) follows globL_ok
    (over_ok ovCut_ok (over_ok ovTextN_ok (over_ok (ovW_ok word_says) (over_ok (ovW_ok rword_says) (over_ok (ovW_ok (lkey_says fields_told)) (over_ok (ovW_ok rkey_says) (over_ok (ovW_ok (lname_says fields_told)) (over_ok ovWakes_ok call0_ok)))))))) (arg2 rfl rfl) ?_
  repeat' (first | ((conv => lhs; whnf); first | ((conv => lhs; arg 1; whnf); refine valK_ok ?_) | refine forceB_ok ?_ | refine forceN_add ?_ | refine forceN_sub ?_ | refine forceN_suc ?_ | refine forceN_part ?_ | refine forceN_byte ?_ | refine forceN_ok ?_ | refine forceZ_add ?_ | refine forceZ_mul (by (try simp only [maxK]); omega) ?_ | refine forceZ_sub ?_ | refine forceZ_ok ?_ | refine rowAt_ok (byteRows_get (by (try simp only [maxK]); omega)) ?_ | (apply rowAt_ok; (focus assumption)) | refine br_true (Nat.beq_refl _) ?_ | refine br_true (by assumption) ?_ | refine br_false (by assumption) ?_ | refine br_max (by (try simp only [maxK]); omega) ?_ | refine br_ble_t (by (try simp only [maxK]); omega) ?_ | refine br_ble_f (by (try simp only [maxK]); omega) ?_ | refine br_beq_f (by (try simp only [maxK]); omega) ?_ | refine br_true (by simp only [Bool.and_eq_true, Nat.ble_eq]; (try simp only []); omega) ?_ | (refine br_ble (fun h => ?_) (fun h => ?_) <;> (try simp only [] at h)) | (refine br_beq (fun h => ?_) (fun h => ?_) <;> (try simp only [] at h)) | refine br_split (fun h => ?_) (fun h => ?_) | fail) | ((conv => lhs; whnf); first | refine acc4_upd_ok (by omega) ?_ | refine acc4_get_same (by omega) ?_ | refine acc4_get_other (by omega) (by omega) (by omega) ?_ | refine acc4_get_ok (by omega) (by assumption) ?_ | refine opt3_split (fun h => ?_) (fun kind num tl h => ?_) | refine int_split (fun a h => ?_) (fun a h => ?_) | fail))
  all_goals (try (conv => lhs; whnf))
  refine askP_ok ⟨picks_of picks, hml, rfl⟩ ?_
  repeat' (first | ((conv => lhs; whnf); first | ((conv => lhs; arg 1; whnf); refine valK_ok ?_) | refine forceB_ok ?_ | refine forceN_add ?_ | refine forceN_sub ?_ | refine forceN_suc ?_ | refine forceN_part ?_ | refine forceN_byte ?_ | refine forceN_ok ?_ | refine forceZ_add ?_ | refine forceZ_mul (by (try simp only [maxK]); omega) ?_ | refine forceZ_sub ?_ | refine forceZ_ok ?_ | refine rowAt_ok (byteRows_get (by (try simp only [maxK]); omega)) ?_ | (apply rowAt_ok; (focus assumption)) | refine br_true (Nat.beq_refl _) ?_ | refine br_true (by assumption) ?_ | refine br_false (by assumption) ?_ | refine br_max (by (try simp only [maxK]); omega) ?_ | refine br_ble_t (by (try simp only [maxK]); omega) ?_ | refine br_ble_f (by (try simp only [maxK]); omega) ?_ | refine br_beq_f (by (try simp only [maxK]); omega) ?_ | refine br_true (by simp only [Bool.and_eq_true, Nat.ble_eq]; (try simp only []); omega) ?_ | (refine br_ble (fun h => ?_) (fun h => ?_) <;> (try simp only [] at h)) | (refine br_beq (fun h => ?_) (fun h => ?_) <;> (try simp only [] at h)) | refine br_split (fun h => ?_) (fun h => ?_) | fail) | ((conv => lhs; whnf); first | refine acc4_upd_ok (by omega) ?_ | refine acc4_get_same (by omega) ?_ | refine acc4_get_other (by omega) (by omega) (by omega) ?_ | refine acc4_get_ok (by omega) (by assumption) ?_ | refine opt3_split (fun h => ?_) (fun kind num tl h => ?_) | refine int_split (fun a h => ?_) (fun a h => ?_) | fail))
  all_goals (try (conv => lhs; whnf))
  refine askP_ok ⟨by decide, rfl, by rw [List.length_take]; omega⟩ ?_
  generalize hX : (textM ({ data := #[] } : ByteArray).size (packL ({ data := #[] } : ByteArray).data.toList) (((picks.map pickRow).map pickOf).take 2)).1 = X
  generalize hN : (textM ({ data := #[] } : ByteArray).size (packL ({ data := #[] } : ByteArray).data.toList) (((picks.map pickRow).map pickOf).take 2)).2 = N
  have hXl : X ≤ 1140 := by rw [← hX]; exact textM_le _ _ _
  repeat' (first | ((conv => lhs; whnf); first | ((conv => lhs; arg 1; whnf); refine valK_ok ?_) | refine forceB_ok ?_ | refine forceN_add ?_ | refine forceN_sub ?_ | refine forceN_suc ?_ | refine forceN_part ?_ | refine forceN_byte ?_ | refine forceN_ok ?_ | refine forceZ_add ?_ | refine forceZ_mul (by (try simp only [maxK]); omega) ?_ | refine forceZ_sub ?_ | refine forceZ_ok ?_ | refine rowAt_ok (byteRows_get (by (try simp only [maxK]); omega)) ?_ | (apply rowAt_ok; (focus assumption)) | refine br_true (Nat.beq_refl _) ?_ | refine br_true (by assumption) ?_ | refine br_false (by assumption) ?_ | refine br_max (by (try simp only [maxK]); omega) ?_ | refine br_ble_t (by (try simp only [maxK]); omega) ?_ | refine br_ble_f (by (try simp only [maxK]); omega) ?_ | refine br_beq_f (by (try simp only [maxK]); omega) ?_ | refine br_true (by simp only [Bool.and_eq_true, Nat.ble_eq]; (try simp only []); omega) ?_ | (refine br_ble (fun h => ?_) (fun h => ?_) <;> (try simp only [] at h)) | (refine br_beq (fun h => ?_) (fun h => ?_) <;> (try simp only [] at h)) | refine br_split (fun h => ?_) (fun h => ?_) | fail) | ((conv => lhs; whnf); first | refine acc4_upd_ok (by omega) ?_ | refine acc4_get_same (by omega) ?_ | refine acc4_get_other (by omega) (by omega) (by omega) ?_ | refine acc4_get_ok (by omega) (by assumption) ?_ | refine opt3_split (fun h => ?_) (fun kind num tl h => ?_) | refine int_split (fun a h => ?_) (fun a h => ?_) | fail))
  all_goals (try (conv => lhs; whnf))
  refine unroll (by unfold rounds0; omega) ?_
  rcases word_cases len n with ⟨a1, a2, a3, a4⟩ | ⟨a1, a2, a3, a4⟩ | ⟨a1, a2, a3, a4⟩
  all_goals repeat' (first | ((conv => lhs; whnf); first | ((conv => lhs; arg 1; whnf); refine valK_ok ?_) | refine forceB_ok ?_ | refine forceN_add ?_ | refine forceN_sub ?_ | refine forceN_suc ?_ | refine forceN_part ?_ | refine forceN_byte ?_ | refine forceN_ok ?_ | refine forceZ_add ?_ | refine forceZ_mul (by (try simp only [maxK]); omega) ?_ | refine forceZ_sub ?_ | refine forceZ_ok ?_ | refine rowAt_ok (byteRows_get (by (try simp only [maxK]); omega)) ?_ | (apply rowAt_ok; (focus assumption)) | refine br_true (Nat.beq_refl _) ?_ | refine br_true (by assumption) ?_ | refine br_false (by assumption) ?_ | refine br_max (by (try simp only [maxK]); omega) ?_ | refine br_ble_t (by (try simp only [maxK]); omega) ?_ | refine br_ble_f (by (try simp only [maxK]); omega) ?_ | refine br_beq_f (by (try simp only [maxK]); omega) ?_ | refine br_true (by simp only [Bool.and_eq_true, Nat.ble_eq]; (try simp only []); omega) ?_ | (refine br_ble (fun h => ?_) (fun h => ?_) <;> (try simp only [] at h)) | (refine br_beq (fun h => ?_) (fun h => ?_) <;> (try simp only [] at h)) | refine br_split (fun h => ?_) (fun h => ?_) | fail) | ((conv => lhs; whnf); first | refine acc4_upd_ok (by omega) ?_ | refine acc4_get_same (by omega) ?_ | refine acc4_get_other (by omega) (by omega) (by omega) ?_ | refine acc4_get_ok (by omega) (by assumption) ?_ | refine opt3_split (fun h => ?_) (fun kind num tl h => ?_) | refine int_split (fun a h => ?_) (fun a h => ?_) | fail))
  all_goals (try (conv => lhs; whnf))
  all_goals refine unroll (by unfold rounds0; omega) ?_
  all_goals rcases word_cases X N with ⟨b1, b2, b3, b4⟩ | ⟨b1, b2, b3, b4⟩ | ⟨b1, b2, b3, b4⟩
  all_goals repeat' (first | ((conv => lhs; whnf); first | ((conv => lhs; arg 1; whnf); refine valK_ok ?_) | refine forceB_ok ?_ | refine forceN_add ?_ | refine forceN_sub ?_ | refine forceN_suc ?_ | refine forceN_part ?_ | refine forceN_byte ?_ | refine forceN_ok ?_ | refine forceZ_add ?_ | refine forceZ_mul (by (try simp only [maxK]); omega) ?_ | refine forceZ_sub ?_ | refine forceZ_ok ?_ | refine rowAt_ok (byteRows_get (by (try simp only [maxK]); omega)) ?_ | (apply rowAt_ok; (focus assumption)) | refine br_true (Nat.beq_refl _) ?_ | refine br_true (by assumption) ?_ | refine br_false (by assumption) ?_ | refine br_max (by (try simp only [maxK]); omega) ?_ | refine br_ble_t (by (try simp only [maxK]); omega) ?_ | refine br_ble_f (by (try simp only [maxK]); omega) ?_ | refine br_beq_f (by (try simp only [maxK]); omega) ?_ | refine br_true (by simp only [Bool.and_eq_true, Nat.ble_eq]; (try simp only []); omega) ?_ | (refine br_ble (fun h => ?_) (fun h => ?_) <;> (try simp only [] at h)) | (refine br_beq (fun h => ?_) (fun h => ?_) <;> (try simp only [] at h)) | refine br_split (fun h => ?_) (fun h => ?_) | fail) | ((conv => lhs; whnf); first | refine acc4_upd_ok (by omega) ?_ | refine acc4_get_same (by omega) ?_ | refine acc4_get_other (by omega) (by omega) (by omega) ?_ | refine acc4_get_ok (by omega) (by assumption) ?_ | refine opt3_split (fun h => ?_) (fun kind num tl h => ?_) | refine int_split (fun a h => ?_) (fun a h => ?_) | fail))
  all_goals (try (conv => lhs; whnf))
  all_goals refine unroll (by unfold rounds0; omega) ?_
  all_goals repeat' (first | ((conv => lhs; whnf); first | ((conv => lhs; arg 1; whnf); refine valK_ok ?_) | refine forceB_ok ?_ | refine forceN_add ?_ | refine forceN_sub ?_ | refine forceN_suc ?_ | refine forceN_part ?_ | refine forceN_byte ?_ | refine forceN_ok ?_ | refine forceZ_add ?_ | refine forceZ_mul (by (try simp only [maxK]); omega) ?_ | refine forceZ_sub ?_ | refine forceZ_ok ?_ | refine rowAt_ok (byteRows_get (by (try simp only [maxK]); omega)) ?_ | (apply rowAt_ok; (focus assumption)) | refine br_true (Nat.beq_refl _) ?_ | refine br_true (by assumption) ?_ | refine br_false (by assumption) ?_ | refine br_max (by (try simp only [maxK]); omega) ?_ | refine br_ble_t (by (try simp only [maxK]); omega) ?_ | refine br_ble_f (by (try simp only [maxK]); omega) ?_ | refine br_beq_f (by (try simp only [maxK]); omega) ?_ | refine br_true (by simp only [Bool.and_eq_true, Nat.ble_eq]; (try simp only []); omega) ?_ | (refine br_ble (fun h => ?_) (fun h => ?_) <;> (try simp only [] at h)) | (refine br_beq (fun h => ?_) (fun h => ?_) <;> (try simp only [] at h)) | refine br_split (fun h => ?_) (fun h => ?_) | fail) | ((conv => lhs; whnf); first | refine acc4_upd_ok (by omega) ?_ | refine acc4_get_same (by omega) ?_ | refine acc4_get_other (by omega) (by omega) (by omega) ?_ | refine acc4_get_ok (by omega) (by assumption) ?_ | refine opt3_split (fun h => ?_) (fun kind num tl h => ?_) | refine int_split (fun a h => ?_) (fun a h => ?_) | fail))
  all_goals (try (conv => lhs; whnf))
  all_goals exact okIf_ok (frz_bool rfl)

end Go.Proofs.YtjljgldgkkfckaaDoor.M

/- What LexNames needs of its arguments, of the door's heap, and of the table of blanks. -/
namespace Go.Proofs.YtjljgldgkkfckaaDoor.lexes
open Go Go.ChangeShapes Go.WideShapes Go.ChangeAt Go.RowKit Go.Proofs.YtjljgldgkkfckaaDoor.M
set_option linter.unusedVariables false
set_option linter.unusedSimpArgs false

theorem ints_arg {P : Program} {H : Type} {enc : TypeId × Value → H} {W : World} {t e : TypeId} {v : Value} {d : DataW H} {ps : List MemPlace} {base : Nat} (ht : P.underlying t = some (.slice e)) (he : P.underlying e = some (.int .i64)) (hc : P.cellsOf e = 1)
    (hval : Value.okWide P W .any base t v) (h : DataW.Trod enc P W 0 (fun _ => true) true t v d ps) (hw : ∀ l r, d = .slice l r → (l.length + r.length) * 8 ≤ reachBytes) :
    ∃ picks : List Int, picks.length ≤ 140737488355328 ∧ ∀ ρ : Nat → Value, RepP ρ W (fun _ => False) (.ro 1 (picks.map pickRow)) v := by
  obtain ⟨a0, len0, cap0, rfl⟩ := okWide_slice ht hval
  obtain ⟨fuel, hf⟩ := h
  rcases open_ints ht he hc hf with ⟨h1, h2⟩ | ⟨a, len, cap, zs, h1, h2, h3, h4, h5, h6, h7, h8⟩
  · simp only [Value.cells, List.cons.injEq, Value.slice.injEq, and_true] at h1
    obtain ⟨rfl, rfl, rfl⟩ := h1
    exact ⟨[], by simp, fun ρ => .nil 1⟩
  · simp only [Value.cells, List.cons.injEq, Value.slice.injEq, and_true] at h1
    obtain ⟨rfl, rfl, rfl⟩ := h1
    simp only [if_true] at h5
    have hok : World.has P W .any base a e cap0 := by
      have := hval
      unfold Value.okWide at this
      rw [ht] at this
      simp only at this
      unfold Cell.okWide at this
      rw [ht] at this
      simp only at this
      unfold Cell.ok at this
      rw [ht] at this
      simp only at this
      exact this.2.2
    obtain ⟨_, hsp, row, cells, hsh, _⟩ := hok
    have hb : a.block < W.heap.size := by
      unfold World.shape? at hsh
      cases hh : W.heap[a.block]? with
      | none => rw [hh] at hsh; cases hsh
      | some x => exact (Array.getElem?_eq_some_iff.mp hh).1
    have hlz : (zs.take len0).length = len0 := by rw [List.length_take]; omega
    refine ⟨zs.take len0, ?_, fun ρ => ?_⟩
    · have hd := congrArg Prod.fst h6
      have := hw _ _ hd
      have e1 : (lits IntKind.i64 (zs.take len0) : List (DataW H)).length = len0 := by simp [lits]; omega
      have := reachBytes_lt
      omega
    · have key := RepP.ro (ρ := ρ) (w := W) (L := fun _ => False) 1 ((zs.take len0).map pickRow) a.block a.off cap0 (fun r _ => .int .i64 (zs.getD r 0)) (fun h => h) hb (by rw [List.length_map]; omega)
        (fun row hrow => by
          obtain ⟨z, _, rfl⟩ := List.mem_map.mp hrow
          exact ⟨rfl, fun q hq => by simp [pickRow] at hq; subst hq; rfl⟩)
        (fun r row hr c q hq => by
          rw [List.getElem?_map] at hr
          obtain ⟨z, hz, rfl⟩ := Option.map_eq_some_iff.mp hr
          have hc0 : c = 0 := by
            cases c with
            | zero => rfl
            | succ c => simp [pickRow] at hq
          subst hc0
          have hlt : r < (zs.take len0).length := (List.getElem?_eq_some_iff.mp hz).1
          have := h7 r (by omega)
          rw [show a.add r = ⟨a.block, a.off + (r * 1 + 0), none⟩ by
            obtain ⟨b, o, sp⟩ := a
            simp only at hsp
            subst hsp
            simp [Addr.add]] at this
          exact this)
        (fun r row hr c q hq => by
          rw [List.getElem?_map] at hr
          obtain ⟨z, hz, rfl⟩ := Option.map_eq_some_iff.mp hr
          cases c with
          | zero =>
            simp [pickRow] at hq
            subst hq
            have hlt : r < (zs.take len0).length := (List.getElem?_eq_some_iff.mp hz).1
            have e : zs.getD r 0 = z := by
              rw [List.getElem?_take_of_lt (by omega)] at hz
              rw [List.getD_eq_getElem?_getD, hz]
              rfl
            rw [e]
            exact .int _ _
          | succ c => simp [pickRow] at hq)
      rw [List.length_map, hlz] at key
      have ea : a = ⟨a.block, a.off, none⟩ := by
        obtain ⟨b, o, sp⟩ := a
        simp only at hsp
        subst hsp
        rfl
      rw [ea]
      exact key

theorem str_arg {P : Program} {H : Type} {enc : TypeId × Value → H} {W : World} {t : TypeId} {v : Value} {d : DataW H} {ps : List MemPlace} {base : Nat} (ht : P.underlying t = some .string)
    (hval : Value.okWide P W .any base t v) (h : DataW.Trod enc P W 0 (fun _ => true) true t v d ps) : ∃ s : ByteArray, v = .string s ∧ d = .lit (.string s.data.toList) ∧ ps = [] := by
  obtain ⟨s, rfl⟩ := okWide_string ht hval
  obtain ⟨fuel, hf⟩ := h
  obtain ⟨s', h, hx, hs⟩ := DataW.trod_string ht hf
  simp [Value.cells] at h
  subst h
  simp only [Prod.mk.injEq] at hx
  exact ⟨s, rfl, hx.1, hx.2⟩

theorem text_arg (ρ : Nat → Value) (W : World) (s : ByteArray) : RepP ρ W (fun _ => False) (.ps s.size (packL s.data.toList)) (.string s) := repP_cv W _ (.string s)

/-- What a variable of bytes holds, cell by cell. -/
theorem laid_bytes {P : Program} {w : World} {fuel t e n : Nat} {cs : List Value} {l : List Nat} {p : List MemPlace} (ht : P.underlying t = some (.array n e)) (he : P.underlying e = some (.int .u8)) (h1 : P.cellsOf e = 1) (hn : P.cellsOf t = n) (hl : l.length = n)
    (h : DataW.trod (fun _ => ()) P w 0 (fun _ => true) false fuel t cs = some (.agg (l.map fun c => .lit (.int .u8 (.ofNat c))), p)) : ∀ (i : Nat) (c : Nat), l[i]? = some c → cs[i]? = some (.int .u8 (.ofNat c)) := by
  obtain ⟨xs, m, rfl, hx, hlen, hxl, hat⟩ := DataW.trod_array ht h
  intro i c hi
  have hlt : i < n := by rw [← hl]; exact (List.getElem?_eq_some_iff.mp hi).1
  have hc := hat i hlt
  rw [h1, Nat.mul_one] at hc
  injection hx with hx1 hx2
  injection hx1 with hx1
  have hxi : (xs.map (·.1))[i]? = some (.lit (.int .u8 (.ofNat c))) := by rw [← hx1, List.getElem?_map, hi]; rfl
  rw [List.getElem?_map] at hxi
  obtain ⟨y, hy1, hy2⟩ := Option.map_eq_some_iff.mp hxi
  rw [hy1] at hc
  obtain ⟨k, g1, g2, g3⟩ := DataW.trod_int he hc
  rw [g2] at hy2
  simp only [DataW.lit.injEq, Lit.int.injEq, true_and] at hy2
  rw [← hy2]
  have h2 : ((cs.drop i).take 1)[0]? = some (Value.int .u8 k) := by rw [g1]; rfl
  rw [List.getElem?_take, if_pos (by omega), List.getElem?_drop] at h2
  simpa using h2

def spaceN : List Nat := [0, 0, 0, 0, 0, 0, 0, 0, 0, 1, 1, 1, 1, 1, 0, 0, 0, 0, 0, 0, 0, 0, 0, 0, 0, 0, 0, 0, 0, 0, 0, 0, 1, 0, 0, 0, 0, 0, 0, 0, 0, 0, 0, 0, 0, 0, 0, 0, 0, 0, 0, 0, 0, 0, 0, 0, 0, 0, 0, 0, 0, 0, 0, 0, 0, 0, 0, 0, 0, 0, 0, 0, 0, 0, 0, 0, 0, 0, 0, 0, 0, 0, 0, 0, 0, 0, 0, 0, 0, 0, 0, 0, 0, 0, 0, 0, 0, 0, 0, 0, 0, 0, 0, 0, 0, 0, 0, 0, 0, 0, 0, 0, 0, 0, 0, 0, 0, 0, 0, 0, 0, 0, 0, 0, 0, 0, 0, 0, 0, 0, 0, 0, 0, 0, 0, 0, 0, 0, 0, 0, 0, 0, 0, 0, 0, 0, 0, 0, 0, 0, 0, 0, 0, 0, 0, 0, 0, 0, 0, 0, 0, 0, 0, 0, 0, 0, 0, 0, 0, 0, 0, 0, 0, 0, 0, 0, 0, 0, 0, 0, 0, 0, 0, 0, 0, 0, 0, 0, 0, 0, 0, 0, 0, 0, 0, 0, 0, 0, 0, 0, 0, 0, 0, 0, 0, 0, 0, 0, 0, 0, 0, 0, 0, 0, 0, 0, 0, 0, 0, 0, 0, 0, 0, 0, 0, 0, 0, 0, 0, 0, 0, 0, 0, 0, 0, 0, 0, 0, 0, 0, 0, 0, 0, 0, 0, 0, 0, 0, 0, 0, 0, 0, 0, 0, 0, 0]
theorem space_globs (W : World) (h : laidMetH Tryd.prog Rows.lexNamesRow.laid W) : Globs W fun _ => False := by
  have h1 := h.filter (fun x => x.1 == "strings.asciiSpace")
  have e1 : (Rows.lexNamesRow.laid.filter fun x => x.1 == "strings.asciiSpace") = [("strings.asciiSpace", Rows.laid_strings_asciiSpace)] := by kernel_rfl
  rw [e1] at h1
  obtain ⟨h2, _⟩ := laidMetH_iff.1 h1
  have e2 : ([("strings.asciiSpace", (Rows.laid_strings_asciiSpace : DataW Unit))].filter fun x => x.2.handleName?.isNone) = [("strings.asciiSpace", Rows.laid_strings_asciiSpace)] := by kernel_rfl
  rw [e2] at h2
  obtain ⟨ps, ⟨g, t, cs, fuel, p, q, g1, g2, g3, g4, _, _⟩, _, _⟩ := h2
  have e3 : Tryd.prog.globalNamed "strings.asciiSpace" = some 0 := by kernel_rfl
  rw [e3] at g1
  cases g1
  have e4 : (Tryd.prog.globals[0]?).map (·.type) = some 64 := by kernel_rfl
  rw [e4] at g2
  cases g2
  unfold World.var? at g3
  rw [e3] at g3
  simp only [Option.bind_some] at g3
  have hl : (Rows.laid_strings_asciiSpace : DataW Unit) = .agg (spaceN.map fun c => .lit (.int .u8 (.ofNat c))) := by kernel_rfl
  rw [hl] at g4
  have hcs := laid_bytes (n := 256) (e := 5) (by kernel_rfl) (by kernel_rfl) (by kernel_rfl) (by kernel_rfl) (by kernel_rfl) g4
  intro g vs hg
  cases g with
  | succ g => cases hg
  | zero =>
    cases hg
    split at g3
    · rename_i cs' t' fr hh
      cases g3
      refine ⟨fun h => h, ?_, fun i v hi => ?_⟩
      · rcases Nat.lt_or_ge 0 W.heap.size with g | g
        · exact g
        · rw [Array.getElem?_eq_none g] at hh; cases hh
      · have e5 : spaceL = spaceN.map fun c => Value.int .u8 (.ofNat c) := by kernel_rfl
        rw [e5, List.getElem?_map] at hi
        obtain ⟨c, hc, rfl⟩ := Option.map_eq_some_iff.mp hi
        refine ⟨rfl, ?_⟩
        unfold World.cell?
        simp only [hh]
        have := hcs i c hc
        rw [Array.getElem?_toList] at this
        simpa using this
    · cases g3

/-- A law of a text and numbers that says true says so whatever it is handed. -/
theorem says_calls {f : FuncId} {W : World} (hG : Globs W fun _ => False) {s : ByteArray} {v : Value} {picks : List Int} (hr : ∀ ρ : Nat → Value, RepP ρ W (fun _ => False) (.ro 1 (picks.map pickRow)) v)
    (h : ∀ ρ : Nat → Value, Says ρ Tryd.prog f [.ps s.size (packL s.data.toList), .ro 1 (picks.map pickRow)] (.bool true)) : Calls Tryd.prog f #[.string s, v] W fun e w' => e = .returned (.bool true) ∧ Below W.heap.size W w' := by
  refine calls_ret (ρ := fun _ => undef) hG rfl (fun i q hq => ?_) ((h _ (fun _ => none) 0 (fun _ _ _ => False)).mono fun o O m h => h.1)
  match i with
  | 0 => simp at hq; subst hq; exact text_arg _ W s
  | 1 => simp at hq; subst hq; exact hr _
  | i + 2 => simp at hq

theorem own : ownKnob Tryd.prog.godebug = none := by kernel_rfl

end Go.Proofs.YtjljgldgkkfckaaDoor.lexes
