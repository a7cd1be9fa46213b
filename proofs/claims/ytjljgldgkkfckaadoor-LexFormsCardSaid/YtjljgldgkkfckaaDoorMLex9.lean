/- columbaryplay.Text. -/
import Derived.Test.YtjljgldgkkfckaaDoorMLex8
namespace Go.Proofs.YtjljgldgkkfckaaDoor.M
open Go
set_option linter.unusedSimpArgs false
set_option linter.unusedVariables false
variable {ρ : Nat → Value}

attribute [local irreducible] forceN forceZ forceB okIf roundsK valK rowAt
set_option maxRecDepth 100000

def withinN (z : Int) (b : Nat) : Nat := (withinM z (.ofNat b)).toNat
theorem withinN_lt (z : Int) {b : Nat} (hb : 0 < b) (hb2 : b < 1000) : withinN z b < b := by
  obtain ⟨k, h1, h2⟩ := withinM_lt z b hb hb2
  rw [withinN, h2]; exact h1
theorem withinN_eq (z : Int) {b : Nat} (hb : 0 < b) (hb2 : b < 1000) : withinM z (.ofNat b) = .ofNat (withinN z b) := by
  obtain ⟨k, h1, h2⟩ := withinM_lt z b hb hb2
  rw [withinN, h2]; rfl

noncomputable def ovWithin : OvT := ovF fun
  | [.int .i64 z, .int .i64 (.ofNat b)] => some (Nat.ble 1 b && Nat.ble b 999, .int .i64 (.ofNat (withinN z b)))
  | _ => none
theorem ovWithin_ok : OvOK ρ Tryd.prog 14 ovWithin := ov_says fun args v h => by
  split at h
  · rename_i z b
    injection h with h
    injection h with g1 g2
    subst g2
    simp only [Bool.and_eq_true, Nat.ble_eq] at g1
    rw [← withinN_eq z (by omega) (by omega)]
    exact within_says z b g1.1
  · cases h

noncomputable def ovKeep : OvT := ovF fun
  | [.ps len n, .int .i64 (.ofNat b)] => some (Nat.ble len 140737488355328 && Nat.ble b 140737488355328, .ps (min len b) (n % 256 ^ min len b))
  | _ => none
theorem ovKeep_ok : OvOK ρ Tryd.prog 8 ovKeep := ov_says fun args v h => by
  split at h
  · injection h with h
    injection h with g1 g2
    subst g2
    simp only [Bool.and_eq_true, Nat.ble_eq] at g1
    exact keepText_says _ _ _ g1.1 g1.2
  · cases h

noncomputable def ovWords : OvT := ovF fun
  | [] => some (true, .ro 1 (wtab.map fun p => [.ps p.1 p.2]))
  | _ => none
theorem ovWords_ok : OvOK ρ Tryd.prog 21 ovWords := ov_says fun args v h => by
  split at h
  · injection h with h
    injection h with g1 g2
    subst g2
    exact words_says
  · cases h

def pickRow (z : Int) : List V := [.int .i64 z]

def quoI (z : Int) : Int := IntKind.wrap .i64 (z.tdiv 128)
theorem quo_ofNat {a : Nat} (h : a.div 128 ≤ maxK .i64) : quoI (Int.ofNat a) = Int.ofNat (a.div 128) := wrap_small h

/-- One word, and a blank behind it or not. -/
def pickM (z : Int) (l x : Nat) : Nat × Nat :=
  match Nat.ble 1 (withinN (quoI z) 5) with
  | true => (l + (wtab.getD (withinN z 66) (0, 0)).1 + 1, x + (wtab.getD (withinN z 66) (0, 0)).2 * 256 ^ l + 32 * 256 ^ (l + (wtab.getD (withinN z 66) (0, 0)).1))
  | false => (l + (wtab.getD (withinN z 66) (0, 0)).1, x + (wtab.getD (withinN z 66) (0, 0)).2 * 256 ^ l)
theorem pick_true {z q : Int} {l x : Nat} (hq : quoI z = q) (h : 1 ≤ withinN q 5) : pickM z l x = (l + (wtab.getD (withinN z 66) (0, 0)).1 + 1, x + (wtab.getD (withinN z 66) (0, 0)).2 * 256 ^ l + 32 * 256 ^ (l + (wtab.getD (withinN z 66) (0, 0)).1)) := by
  rw [pickM, hq, Nat.ble_eq_true_of_le h]
theorem pick_false {z q : Int} {l x : Nat} (hq : quoI z = q) (h : withinN q 5 < 1) : pickM z l x = (l + (wtab.getD (withinN z 66) (0, 0)).1, x + (wtab.getD (withinN z 66) (0, 0)).2 * 256 ^ l) := by
  rw [pickM, hq, ble_false_iff.mpr h]
def textF : List Int → Nat → Nat → Nat × Nat
  | [], l, x => (l, x)
  | z :: t, l, x => textF t (pickM z l x).1 (pickM z l x).2

theorem textF_step {picks : List Int} {z : Int} {i l x b : Nat} (h : picks[i]? = some z) (hi : i < b) : textF ((picks.take b).drop i) l x = textF ((picks.take b).drop (i + 1)) (pickM z l x).1 (pickM z l x).2 := by
  have h2 : (picks.take b)[i]? = some z := by rw [List.getElem?_take_of_lt hi, h]
  obtain ⟨hlt, he⟩ := List.getElem?_eq_some_iff.mp h2
  rw [List.drop_eq_getElem_cons hlt, he]
  rfl
theorem textF_end {picks : List Int} {i l x b : Nat} (h : b ≤ i ∨ picks.length ≤ i) : textF ((picks.take b).drop i) l x = (l, x) := by
  rw [List.drop_eq_nil_of_le (by rw [List.length_take]; omega)]
  rfl

theorem wtab_at {i : Nat} (h : i < 66) : (wtab.map fun p => [V.ps p.1 p.2])[i]? = some [.ps (wtab.getD i (0, 0)).1 (wtab.getD i (0, 0)).2] := by
  have hl : i < wtab.length := h
  rw [List.getElem?_map, List.getElem?_eq_getElem hl, List.getD_eq_getElem?_getD, List.getElem?_eq_getElem hl]
  rfl
theorem wtab_len : ∀ i : Nat, i < 66 → (wtab.getD i (0, 0)).1 ≤ 17 := by decide

theorem pickM_le (z : Int) (l x : Nat) : (pickM z l x).1 ≤ l + 18 := by
  have := wtab_len _ (withinN_lt z (b := 66) (by omega) (by omega))
  unfold pickM
  split <;> simp only <;> omega
theorem textF_le : ∀ (t : List Int) (l x : Nat), (textF t l x).1 ≤ l + 18 * t.length
  | [], l, x => Nat.le_refl _
  | z :: t, l, x => by
    have h1 := textF_le t (pickM z l x).1 (pickM z l x).2
    have h2 := pickM_le z l x
    simp only [textF, List.length_cons]
    omega

set_option maxHeartbeats 4000000 in
theorem text_says (len n : Nat) (picks : List Int) (hl : len ≤ 140737488355328) (hp : picks.length ≤ 140737488355328) : Says ρ Tryd.prog 9 [.ps len n, .ro 1 (picks.map pickRow)] (.ps (textF (picks.take 60) (min len 60) (n % 256 ^ min len 60)).1 (textF (picks.take 60) (min len 60) (n % 256 ^ min len 60)).2) := by
  have hml : (picks.map pickRow).length = picks.length := by simp
  refine says_run (call := over 14 ovWithin (over 8 ovKeep (over 21 ovWords call0))) follows globL_ok (over_ok ovWithin_ok (over_ok ovKeep_ok (over_ok ovWords_ok call0_ok))) (arg2 rfl rfl) ?_
  repeat' (first | ((conv => lhs; whnf); first | ((conv => lhs; arg 1; whnf); refine valK_ok ?_) | refine forceB_ok ?_ | refine forceN_add ?_ | refine forceN_sub ?_ | refine forceN_suc ?_ | refine forceN_part ?_ | refine forceN_byte ?_ | refine forceN_ok ?_ | refine forceZ_add ?_ | refine forceZ_mul (by (try simp only [maxK]); omega) ?_ | refine forceZ_sub ?_ | refine forceZ_ok ?_ | refine rowAt_ok (byteRows_get (by (try simp only [maxK]); omega)) ?_ | (apply rowAt_ok; (focus assumption)) | refine br_true (Nat.beq_refl _) ?_ | refine br_true (by assumption) ?_ | refine br_false (by assumption) ?_ | refine br_max (by (try simp only [maxK]); omega) ?_ | refine br_ble_t (by (try simp only [maxK]); omega) ?_ | refine br_ble_f (by (try simp only [maxK]); omega) ?_ | refine br_beq_f (by (try simp only [maxK]); omega) ?_ | refine br_true (by simp only [Bool.and_eq_true, Nat.ble_eq]; (try simp only []); omega) ?_ | (refine br_ble (fun h => ?_) (fun h => ?_) <;> (try simp only [] at h)) | (refine br_beq (fun h => ?_) (fun h => ?_) <;> (try simp only [] at h)) | refine br_split (fun h => ?_) (fun h => ?_) | fail) | ((conv => lhs; whnf); first | refine acc4_upd_ok (by omega) ?_ | refine acc4_get_same (by omega) ?_ | refine acc4_get_other (by omega) (by omega) (by omega) ?_ | refine acc4_get_ok (by omega) (by assumption) ?_ | refine opt3_split (fun h => ?_) (fun kind num tl h => ?_) | refine int_split (fun a h => ?_) (fun a h => ?_) | fail))
  conv => lhs; whnf
  refine loop_ok (fun m tm hp nx => ∃ i l x, m = picks.length - i ∧ i ≤ picks.length ∧ i ≤ 60 ∧ l ≤ 60 + 18 * i ∧ textF ((picks.take 60).drop i) l x = textF (picks.take 60) (min len 60) (n % 256 ^ min len 60) ∧
    get2 tm 5 = .ps l x ∧ get2 tm 6 = .ro 1 (wtab.map fun p => [.ps p.1 p.2]) ∧ get2 tm 12 = .ro 1 (picks.map pickRow) ∧ get2 tm 13 = .int .i64 (.ofNat (picks.map pickRow).length) ∧ get2 tm 14 = .int .i64 (.ofNat i) ∧ get2 tm 255 = .un) (m := picks.length) (by omega)
    ⟨0, _, _, rfl, by omega, by omega, by omega, rfl, rfl, rfl, rfl, rfl, rfl, rfl⟩ ?_
  rintro m tm hp2 nx ⟨i, l, x, rfl, hi, hi60, hlx, hres, e5, e6, e12, e13, e14, e255⟩ k hk
  (obtain ⟨y0, y1, y2, y3, y4, y5, y6, y7, y8, y9, y10, y11, y12, y13, y14, y15⟩ := tm; obtain ⟨x0, x1, x2, x3, x4, x5, x6, x7, x8, x9, x10, x11, x12, x13, x14, x15⟩ := y0; obtain ⟨x16, x17, x18, x19, x20, x21, x22, x23, x24, x25, x26, x27, x28, x29, x30, x31⟩ := y1; obtain ⟨x32, x33, x34, x35, x36, x37, x38, x39, x40, x41, x42, x43, x44, x45, x46, x47⟩ := y2; obtain ⟨x240, x241, x242, x243, x244, x245, x246, x247, x248, x249, x250, x251, x252, x253, x254, x255⟩ := y15)
  cases e5
  cases e6
  cases e12
  cases e13
  cases e14
  cases e255
  have hz : ∀ z, picks[i]? = some z → (picks.map pickRow)[i]? = some [.int .i64 z] := fun z h => by rw [List.getElem?_map, h]; rfl
  rcases Nat.lt_or_ge i picks.length with hlt | hge
  · obtain ⟨z, hzz⟩ : ∃ z, picks[i]? = some z := ⟨_, List.getElem?_eq_getElem hlt⟩
    have hrow := hz z hzz
    have hw := withinN_lt z (b := 66) (by omega) (by omega)
    have hwr := wtab_at hw
    have hwl := wtab_len _ hw
    repeat' (first | ((conv => lhs; whnf); first | ((conv => lhs; arg 1; whnf); refine valK_ok ?_) | refine forceB_ok ?_ | refine forceN_add ?_ | refine forceN_sub ?_ | refine forceN_suc ?_ | refine forceN_part ?_ | refine forceN_byte ?_ | refine forceN_ok ?_ | refine forceZ_add ?_ | refine forceZ_mul (by (try simp only [maxK]); omega) ?_ | refine forceZ_sub ?_ | refine forceZ_ok ?_ | refine rowAt_ok (byteRows_get (by (try simp only [maxK]); omega)) ?_ | (apply rowAt_ok; (focus assumption)) | refine br_true (Nat.beq_refl _) ?_ | refine br_true (by assumption) ?_ | refine br_false (by assumption) ?_ | refine br_max (by (try simp only [maxK]); omega) ?_ | refine br_ble_t (by (try simp only [maxK]); omega) ?_ | refine br_ble_f (by (try simp only [maxK]); omega) ?_ | refine br_beq_f (by (try simp only [maxK]); omega) ?_ | refine br_true (by simp only [Bool.and_eq_true, Nat.ble_eq]; (try simp only []); omega) ?_ | (refine br_ble (fun h => ?_) (fun h => ?_) <;> (try simp only [] at h)) | (refine br_beq (fun h => ?_) (fun h => ?_) <;> (try simp only [] at h)) | refine br_split (fun h => ?_) (fun h => ?_) | fail) | ((conv => lhs; whnf); first | refine acc4_upd_ok (by omega) ?_ | refine acc4_get_same (by omega) ?_ | refine acc4_get_other (by omega) (by omega) (by omega) ?_ | refine acc4_get_ok (by omega) (by assumption) ?_ | refine opt3_split (fun h => ?_) (fun kind num tl h => ?_) | refine int_split (fun a h => ?_) (fun a h => ?_) | fail))
    all_goals (try (conv => lhs; whnf))
    all_goals first
    | (have h9 : 9223372036854775807 < l + (wtab.getD (withinN z 66) (0, 0)).1 + 1 := h
       omega)
    | (rw [textF_end (by omega)] at hres
       rw [← hres]
       exact okIf_ok (frz_ps rfl rfl))
    | (rw [textF_step hzz (by omega), pick_true (q := Int.ofNat (a.div 128)) (by rw [‹z = Int.ofNat a›]; exact quo_ofNat ‹_›) ‹Nat.succ 0 ≤ withinN (Int.ofNat (a.div 128)) 5›] at hres
       exact hk _ _ _ _ (by omega) ⟨i + 1, _, _, rfl, by omega, by omega, by omega, hres, rfl, rfl, rfl, rfl, rfl, rfl⟩)
    | (rw [textF_step hzz (by omega), pick_true (q := IntKind.i64.wrap (z.tdiv 128)) rfl ‹Nat.succ 0 ≤ withinN (IntKind.i64.wrap (z.tdiv 128)) 5›] at hres
       exact hk _ _ _ _ (by omega) ⟨i + 1, _, _, rfl, by omega, by omega, by omega, hres, rfl, rfl, rfl, rfl, rfl, rfl⟩)
    | (rw [textF_step hzz (by omega), pick_false (q := Int.ofNat (a.div 128)) (by rw [‹z = Int.ofNat a›]; exact quo_ofNat ‹_›) ‹withinN (Int.ofNat (a.div 128)) 5 < Nat.succ 0›] at hres
       exact hk _ _ _ _ (by omega) ⟨i + 1, _, _, rfl, by omega, by omega, by omega, hres, rfl, rfl, rfl, rfl, rfl, rfl⟩)
    | (rw [textF_step hzz (by omega), pick_false (q := IntKind.i64.wrap (z.tdiv 128)) rfl ‹withinN (IntKind.i64.wrap (z.tdiv 128)) 5 < Nat.succ 0›] at hres
       exact hk _ _ _ _ (by omega) ⟨i + 1, _, _, rfl, by omega, by omega, by omega, hres, rfl, rfl, rfl, rfl, rfl, rfl⟩)
  · repeat' (first | ((conv => lhs; whnf); first | ((conv => lhs; arg 1; whnf); refine valK_ok ?_) | refine forceB_ok ?_ | refine forceN_add ?_ | refine forceN_sub ?_ | refine forceN_suc ?_ | refine forceN_part ?_ | refine forceN_byte ?_ | refine forceN_ok ?_ | refine forceZ_add ?_ | refine forceZ_mul (by (try simp only [maxK]); omega) ?_ | refine forceZ_sub ?_ | refine forceZ_ok ?_ | refine rowAt_ok (byteRows_get (by (try simp only [maxK]); omega)) ?_ | (apply rowAt_ok; (focus assumption)) | refine br_true (Nat.beq_refl _) ?_ | refine br_true (by assumption) ?_ | refine br_false (by assumption) ?_ | refine br_max (by (try simp only [maxK]); omega) ?_ | refine br_ble_t (by (try simp only [maxK]); omega) ?_ | refine br_ble_f (by (try simp only [maxK]); omega) ?_ | refine br_beq_f (by (try simp only [maxK]); omega) ?_ | refine br_true (by simp only [Bool.and_eq_true, Nat.ble_eq]; (try simp only []); omega) ?_ | (refine br_ble (fun h => ?_) (fun h => ?_) <;> (try simp only [] at h)) | (refine br_beq (fun h => ?_) (fun h => ?_) <;> (try simp only [] at h)) | refine br_split (fun h => ?_) (fun h => ?_) | fail) | ((conv => lhs; whnf); first | refine acc4_upd_ok (by omega) ?_ | refine acc4_get_same (by omega) ?_ | refine acc4_get_other (by omega) (by omega) (by omega) ?_ | refine acc4_get_ok (by omega) (by assumption) ?_ | refine opt3_split (fun h => ?_) (fun kind num tl h => ?_) | refine int_split (fun a h => ?_) (fun a h => ?_) | fail))
    all_goals (try (conv => lhs; whnf))
    rw [textF_end (by omega)] at hres
    rw [← hres]
    exact okIf_ok (frz_ps rfl rfl)

/-- A text of a law. -/
def textM (len n : Nat) (picks : List Int) : Nat × Nat := textF (picks.take 60) (min len 60) (n % 256 ^ min len 60)
theorem textM_le (len n : Nat) (picks : List Int) : (textM len n picks).1 ≤ 1140 := by
  have h := textF_le (picks.take 60) (min len 60) (n % 256 ^ min len 60)
  have : (picks.take 60).length ≤ 60 := by rw [List.length_take]; omega
  unfold textM
  omega

end Go.Proofs.YtjljgldgkkfckaaDoor.M
