/- LexJoins: two texts with a line's end between. -/
import Derived.Test.YtjljgldgkkfckaaDoorMLexJ
namespace Go.Proofs.YtjljgldgkkfckaaDoor.M
open Go
set_option linter.unusedSimpArgs false
set_option linter.unusedVariables false
variable {ρ : Nat → Value}

theorem cat_lt {x l w k : Nat} (hx : x < 256 ^ l) (hw : w < 256 ^ k) : x + w * 256 ^ l < 256 ^ (l + k) := by
  have e : (256 : Nat) ^ (l + k) = 256 ^ k * 256 ^ l := by rw [Nat.pow_add, Nat.mul_comm]
  rw [e]
  have h2 : (w + 1) * 256 ^ l ≤ 256 ^ k * 256 ^ l := Nat.mul_le_mul_right _ hw
  rw [Nat.add_mul, Nat.one_mul] at h2
  omega
theorem wtab_lt : ∀ i : Nat, i < 66 → (wtab.getD i (0, 0)).2 < 256 ^ (wtab.getD i (0, 0)).1 := by decide
theorem pickM_lt (z : Int) {l x : Nat} (h : x < 256 ^ l) : (pickM z l x).2 < 256 ^ (pickM z l x).1 := by
  have h1 := cat_lt h (wtab_lt _ (withinN_lt z (b := 66) (by omega) (by omega)))
  unfold pickM
  split
  · exact cat_lt (k := 1) h1 (by decide)
  · exact h1
theorem textF_lt : ∀ (t : List Int) {l x : Nat}, x < 256 ^ l → (textF t l x).2 < 256 ^ (textF t l x).1
  | [], l, x, h => h
  | z :: t, l, x, h => textF_lt t (pickM_lt z h)
theorem textM_lt (len n : Nat) (picks : List Int) : (textM len n picks).2 < 256 ^ (textM len n picks).1 :=
  textF_lt _ (Nat.mod_lt _ (Nat.pow_pos (by omega)))

theorem cnt_step {X N i : Nat} (h : i < X) : cntNL (X - i) (N / 256 ^ i) = (match Nat.beq (N / 256 ^ i % 256) 10 with | true => 1 | false => 0) + cntNL (X - (i + 1)) (N / 256 ^ (i + 1)) := by
  obtain ⟨m, hm⟩ : ∃ m, X - i = m + 1 := ⟨X - i - 1, by omega⟩
  rw [hm, show X - (i + 1) = m by omega, ← div_pow_one]
  rfl

theorem cnt_le : ∀ (l n : Nat), cntNL l n ≤ l
  | 0, _ => Nat.le_refl _
  | l + 1, n => by
    have := cnt_le l (n / 256)
    unfold cntNL
    split <;> omega
theorem g_line_le : ∀ (l x line col : Nat) (r : List Tok), G l x line col = .ok r → ∀ t ∈ r, t.line ≤ line + l := by
  intro l
  induction l using Nat.strongRecOn with
  | ind l ih =>
    intro x line col r h t htr
    by_cases h0 : l = 0
    · subst h0; rw [g_end] at h; cases h; simp at htr; subst htr; simp
    by_cases h1 : x % 256 = 32 ∨ x % 256 = 9
    · rw [g_blank (by omega) h1] at h
      have := ih _ (by omega) _ _ _ _ h t htr
      omega
    by_cases h2 : x % 256 = 10
    · rw [g_line (by omega) h2] at h
      have := ih _ (by omega) _ _ _ _ h t htr
      omega
    by_cases h3 : x % 256 = 35
    · have hp : 0 < runP lineB l x := runP_pos (by omega) (by rw [h3]; rfl)
      rw [g_rem (by omega) h3] at h
      have := ih _ (by omega) _ _ _ _ h t htr
      omega
    · have hb : x % 256 ≠ 32 ∧ x % 256 ≠ 9 ∧ x % 256 ≠ 10 ∧ x % 256 ≠ 35 := ⟨by omega, by omega, h2, h3⟩
      cases ht : tokM l x with
      | none => rw [g_bad hb ht] at h; cases h
      | some t2 =>
        obtain ⟨kind, num, tl⟩ := t2
        obtain ⟨e1, e2⟩ := tokM_facts ht
        rw [g_more hb ht (by omega)] at h
        obtain ⟨r2, hg, rfl⟩ := pre_ok h
        rw [List.singleton_append, List.mem_cons] at htr
        rcases htr with rfl | htr
        · show line ≤ line + l; omega
        · have := ih _ (by omega) _ _ _ _ hg t htr
          omega
theorem toks_line_le {l x : Nat} {r : List Tok} (h : toksF (l + 1) l x 1 1 = .ok r) {t : Tok} (ht : t ∈ r) : t.line ≤ 1 + l := g_line_le l x 1 1 r h t ht
theorem ofNat_sub_neg {a b : Nat} (h : b = a + 1) : IntKind.i64.wrap (Int.ofNat a - Int.ofNat b) = Int.negSucc 0 := by
  subst h
  have : Int.ofNat a - Int.ofNat (a + 1) = -1 := by show (a : Int) - ((a + 1 : Nat) : Int) = -1; omega
  rw [this]
  rfl

/-- What is known of the tokens of both. -/
structure Joined (l m nn : List Tok) (q d : Nat) : Prop where
  ll : l.length = q + 1
  ln : nn.length = q + m.length
  fst : ∀ i, i < q → nn[i]? = l[i]?
  snd : ∀ i, q ≤ i → i < q + m.length → ∃ t, m[i - q]? = some t ∧ nn[i]? = some (t.down d)
theorem joined {l m : List Tok} {d : Nat} (hl : l ≠ []) : ∃ q, Joined l m (l.dropLast ++ m.map fun t => t.down d) q d := by
  have h0 : 0 < l.length := List.length_pos_iff.mpr hl
  have hd : l.dropLast.length = l.length - 1 := List.length_dropLast ..
  refine ⟨l.length - 1, by omega, by simp, fun i hi => ?_, fun i h1 h2 => ?_⟩
  · rw [List.getElem?_append_left (by omega), List.getElem?_dropLast, if_pos (by omega)]
  · refine ⟨m[i - (l.length - 1)], List.getElem?_eq_getElem (by omega), ?_⟩
    rw [List.getElem?_append_right (by omega), List.getElem?_map, hd, List.getElem?_eq_getElem (by omega)]
    rfl

attribute [local irreducible] forceN forceZ forceB okIf roundsK valK rowAt
attribute [local irreducible] askP toksF aggsK G
attribute [local irreducible] acc4 get4 put4
set_option maxRecDepth 100000

theorem arg3 {q r s : V} (h : q.flat = true) (h2 : r.flat = true) (h3 : s.flat = true) : ∀ x ∈ [q, r, s], Arg2 [] x x := fun x hx => by simp at hx; rcases hx with rfl | rfl | rfl <;> (refine .flat _ ?_; assumption)

set_option maxHeartbeats 8000000 in
theorem lexJoins_says (len n : Nat) (pa pb : List Int) (hl : len ≤ 140737488355328) (hpa : pa.length ≤ 140737488355328) (hpb : pb.length ≤ 140737488355328) : Says ρ Tryd.prog 5 [.ps len n, .ro 1 (pa.map pickRow), .ro 1 (pb.map pickRow)] (.bool true) := by
  have hma : (pa.map pickRow).length ≤ 140737488355328 := by simpa using hpa
  have hmb : (pb.map pickRow).length ≤ 140737488355328 := by simpa using hpb
  have hx := textM_le len n ((pa.map pickRow).map pickOf)
  have hy := textM_le ({ data := #[] } : ByteArray).size (packL ({ data := #[] } : ByteArray).data.toList) ((pb.map pickRow).map pickOf)
  have hlt := textM_lt len n ((pa.map pickRow).map pickOf)
  refine says_run (call := over 8 ovKeep (over 9 ovText (over 10 ovToks (over 13 ovWakes call0)))) follows globL_ok (over_ok ovKeep_ok (over_ok ovText_ok (over_ok (ovToks_ok tokens_says) (over_ok ovWakes_ok call0_ok)))) (arg3 rfl rfl rfl) ?_
  repeat' (first | ((conv => lhs; whnf); first | ((conv => lhs; arg 1; whnf); refine valK_ok ?_) | refine forceB_ok ?_ | refine forceN_add ?_ | refine forceN_sub ?_ | refine forceN_suc ?_ | refine forceN_part ?_ | refine forceN_byte ?_ | refine forceN_ok ?_ | refine forceZ_add ?_ | refine forceZ_mul (by (try simp only [maxK]); omega) ?_ | refine forceZ_sub ?_ | refine forceZ_ok ?_ | refine rowAt_ok (byteRows_get (by (try simp only [maxK]); omega)) ?_ | (apply rowAt_ok; (focus assumption)) | refine br_true (Nat.beq_refl _) ?_ | refine br_true (by assumption) ?_ | refine br_false (by assumption) ?_ | refine br_max (by (try simp only [maxK]); omega) ?_ | refine br_ble_t (by (try simp only [maxK]); omega) ?_ | refine br_ble_f (by (try simp only [maxK]); omega) ?_ | refine br_beq_f (by (try simp only [maxK]); omega) ?_ | refine br_true (by simp only [Bool.and_eq_true, Nat.ble_eq]; (try simp only []); omega) ?_ | (refine br_ble (fun h => ?_) (fun h => ?_) <;> (try simp only [] at h)) | (refine br_beq (fun h => ?_) (fun h => ?_) <;> (try simp only [] at h)) | refine br_split (fun h => ?_) (fun h => ?_) | fail) | ((conv => lhs; whnf); first | refine acc4_upd_ok (by omega) ?_ | refine acc4_get_same (by omega) ?_ | refine acc4_get_other (by omega) (by omega) (by omega) ?_ | refine acc4_get_ok (by omega) (by assumption) ?_ | refine opt3_split (fun h => ?_) (fun kind num tl h => ?_) | refine int_split (fun a h => ?_) (fun a h => ?_) | fail))
  conv => lhs; whnf
  refine askP_ok ⟨hl, hma, picks_of pa⟩ ?_
  repeat' (first | ((conv => lhs; whnf); first | ((conv => lhs; arg 1; whnf); refine valK_ok ?_) | refine forceB_ok ?_ | refine forceN_add ?_ | refine forceN_sub ?_ | refine forceN_suc ?_ | refine forceN_part ?_ | refine forceN_byte ?_ | refine forceN_ok ?_ | refine forceZ_add ?_ | refine forceZ_mul (by (try simp only [maxK]); omega) ?_ | refine forceZ_sub ?_ | refine forceZ_ok ?_ | refine rowAt_ok (byteRows_get (by (try simp only [maxK]); omega)) ?_ | (apply rowAt_ok; (focus assumption)) | refine br_true (Nat.beq_refl _) ?_ | refine br_true (by assumption) ?_ | refine br_false (by assumption) ?_ | refine br_max (by (try simp only [maxK]); omega) ?_ | refine br_ble_t (by (try simp only [maxK]); omega) ?_ | refine br_ble_f (by (try simp only [maxK]); omega) ?_ | refine br_beq_f (by (try simp only [maxK]); omega) ?_ | refine br_true (by simp only [Bool.and_eq_true, Nat.ble_eq]; (try simp only []); omega) ?_ | (refine br_ble (fun h => ?_) (fun h => ?_) <;> (try simp only [] at h)) | (refine br_beq (fun h => ?_) (fun h => ?_) <;> (try simp only [] at h)) | refine br_split (fun h => ?_) (fun h => ?_) | fail) | ((conv => lhs; whnf); first | refine acc4_upd_ok (by omega) ?_ | refine acc4_get_same (by omega) ?_ | refine acc4_get_other (by omega) (by omega) (by omega) ?_ | refine acc4_get_ok (by omega) (by assumption) ?_ | refine opt3_split (fun h => ?_) (fun kind num tl h => ?_) | refine int_split (fun a h => ?_) (fun a h => ?_) | fail))
  conv => lhs; whnf
  refine askP_ok ⟨Nat.zero_le _, hmb, picks_of pb⟩ ?_
  generalize hX : (textM len n ((pa.map pickRow).map pickOf)).1 = X at *
  generalize hN : (textM len n ((pa.map pickRow).map pickOf)).2 = N at *
  generalize hY : (textM ({ data := #[] } : ByteArray).size (packL ({ data := #[] } : ByteArray).data.toList) ((pb.map pickRow).map pickOf)).1 = Y at *
  generalize hM : (textM ({ data := #[] } : ByteArray).size (packL ({ data := #[] } : ByteArray).data.toList) ((pb.map pickRow).map pickOf)).2 = M at *
  have hJ := toks_join (Y := Y) (M := M) hlt
  obtain ⟨rx, hrx⟩ : ∃ r, toksF (X + 1) X N 1 1 = r := ⟨_, rfl⟩
  obtain ⟨ry, hry⟩ : ∃ r, toksF (Y + 1) Y M 1 1 = r := ⟨_, rfl⟩
  rw [hrx, hry] at hJ
  have hC := cnt_le X N
  cases rx with
  | bad a b =>
    simp only [] at hJ
    cases ry with
    | bad a2 b2 =>
      repeat' (first | (first | ((conv => lhs; whnf); first | ((conv => lhs; arg 1; whnf); refine valK_ok ?_) | refine forceB_ok ?_ | refine forceN_add ?_ | refine forceN_sub ?_ | refine forceN_suc ?_ | refine forceN_part ?_ | refine forceN_byte ?_ | refine forceN_ok ?_ | refine forceZ_add ?_ | refine forceZ_mul (by (try simp only [maxK]); omega) ?_ | refine forceZ_sub ?_ | refine forceZ_ok ?_ | refine rowAt_ok (byteRows_get (by (try simp only [maxK]); omega)) ?_ | (apply rowAt_ok; (focus assumption)) | refine br_true (Nat.beq_refl _) ?_ | refine br_true (by assumption) ?_ | refine br_false (by assumption) ?_ | refine br_max (by (try simp only [maxK]); omega) ?_ | refine br_ble_t (by (try simp only [maxK]); omega) ?_ | refine br_ble_f (by (try simp only [maxK]); omega) ?_ | refine br_beq_f (by (try simp only [maxK]); omega) ?_ | refine br_true (by simp only [Bool.and_eq_true, Nat.ble_eq]; (try simp only []); omega) ?_ | (refine br_ble (fun h => ?_) (fun h => ?_) <;> (try simp only [] at h)) | (refine br_beq (fun h => ?_) (fun h => ?_) <;> (try simp only [] at h)) | refine br_split (fun h => ?_) (fun h => ?_) | fail) | ((conv => lhs; whnf); first | refine acc4_upd_ok (by omega) ?_ | refine acc4_get_same (by omega) ?_ | refine acc4_get_other (by omega) (by omega) (by omega) ?_ | refine acc4_get_ok (by omega) (by assumption) ?_ | refine opt3_split (fun h => ?_) (fun kind num tl h => ?_) | refine int_split (fun a h => ?_) (fun a h => ?_) | fail)) | ((conv => lhs; whnf); first | (apply lex_ok; (focus assumption)) | (apply lex_bad; (focus assumption)) | refine lex_split (fun l h => ?_) (fun a b h => ?_) | refine askP_ok (.inl ⟨_, Nat.le_trans (toksF_le _ _ _ _ _ _ ‹toksF _ _ _ _ _ = LexR.ok _›) (by first | omega | exact Nat.le_trans (Nat.succ_le_succ (Nat.min_le_right _ _)) (by decide)), rfl⟩) ?_ | refine askP_ok (.inr rfl) ?_ | fail))
      all_goals (try (conv => lhs; whnf))
      all_goals first
      | exact okIf_ok (frz_bool rfl)
      | (exfalso; have h9 : 9223372036854775807 < X + 1 := h; omega)
      | (exfalso; have h9 : 9223372036854775807 < X + 1 + Y := h; omega)
      | (exfalso; have h9 : 16384 < X + 1 + Y := h; omega)
    | ok m =>
      repeat' (first | (first | ((conv => lhs; whnf); first | ((conv => lhs; arg 1; whnf); refine valK_ok ?_) | refine forceB_ok ?_ | refine forceN_add ?_ | refine forceN_sub ?_ | refine forceN_suc ?_ | refine forceN_part ?_ | refine forceN_byte ?_ | refine forceN_ok ?_ | refine forceZ_add ?_ | refine forceZ_mul (by (try simp only [maxK]); omega) ?_ | refine forceZ_sub ?_ | refine forceZ_ok ?_ | refine rowAt_ok (byteRows_get (by (try simp only [maxK]); omega)) ?_ | (apply rowAt_ok; (focus assumption)) | refine br_true (Nat.beq_refl _) ?_ | refine br_true (by assumption) ?_ | refine br_false (by assumption) ?_ | refine br_max (by (try simp only [maxK]); omega) ?_ | refine br_ble_t (by (try simp only [maxK]); omega) ?_ | refine br_ble_f (by (try simp only [maxK]); omega) ?_ | refine br_beq_f (by (try simp only [maxK]); omega) ?_ | refine br_true (by simp only [Bool.and_eq_true, Nat.ble_eq]; (try simp only []); omega) ?_ | (refine br_ble (fun h => ?_) (fun h => ?_) <;> (try simp only [] at h)) | (refine br_beq (fun h => ?_) (fun h => ?_) <;> (try simp only [] at h)) | refine br_split (fun h => ?_) (fun h => ?_) | fail) | ((conv => lhs; whnf); first | refine acc4_upd_ok (by omega) ?_ | refine acc4_get_same (by omega) ?_ | refine acc4_get_other (by omega) (by omega) (by omega) ?_ | refine acc4_get_ok (by omega) (by assumption) ?_ | refine opt3_split (fun h => ?_) (fun kind num tl h => ?_) | refine int_split (fun a h => ?_) (fun a h => ?_) | fail)) | ((conv => lhs; whnf); first | (apply lex_ok; (focus assumption)) | (apply lex_bad; (focus assumption)) | refine lex_split (fun l h => ?_) (fun a b h => ?_) | refine askP_ok (.inl ⟨_, Nat.le_trans (toksF_le _ _ _ _ _ _ ‹toksF _ _ _ _ _ = LexR.ok _›) (by first | omega | exact Nat.le_trans (Nat.succ_le_succ (Nat.min_le_right _ _)) (by decide)), rfl⟩) ?_ | refine askP_ok (.inr rfl) ?_ | fail))
      all_goals (try (conv => lhs; whnf))
      all_goals first
      | exact okIf_ok (frz_bool rfl)
      | (exfalso; have h9 : 9223372036854775807 < X + 1 := h; omega)
      | (exfalso; have h9 : 9223372036854775807 < X + 1 + Y := h; omega)
      | (exfalso; have h9 : 16384 < X + 1 + Y := h; omega)
  | ok l =>
    cases ry with
    | bad a2 b2 =>
      simp only [LexR.down, LexR.pre] at hJ
      repeat' (first | (first | ((conv => lhs; whnf); first | ((conv => lhs; arg 1; whnf); refine valK_ok ?_) | refine forceB_ok ?_ | refine forceN_add ?_ | refine forceN_sub ?_ | refine forceN_suc ?_ | refine forceN_part ?_ | refine forceN_byte ?_ | refine forceN_ok ?_ | refine forceZ_add ?_ | refine forceZ_mul (by (try simp only [maxK]); omega) ?_ | refine forceZ_sub ?_ | refine forceZ_ok ?_ | refine rowAt_ok (byteRows_get (by (try simp only [maxK]); omega)) ?_ | (apply rowAt_ok; (focus assumption)) | refine br_true (Nat.beq_refl _) ?_ | refine br_true (by assumption) ?_ | refine br_false (by assumption) ?_ | refine br_max (by (try simp only [maxK]); omega) ?_ | refine br_ble_t (by (try simp only [maxK]); omega) ?_ | refine br_ble_f (by (try simp only [maxK]); omega) ?_ | refine br_beq_f (by (try simp only [maxK]); omega) ?_ | refine br_true (by simp only [Bool.and_eq_true, Nat.ble_eq]; (try simp only []); omega) ?_ | (refine br_ble (fun h => ?_) (fun h => ?_) <;> (try simp only [] at h)) | (refine br_beq (fun h => ?_) (fun h => ?_) <;> (try simp only [] at h)) | refine br_split (fun h => ?_) (fun h => ?_) | fail) | ((conv => lhs; whnf); first | refine acc4_upd_ok (by omega) ?_ | refine acc4_get_same (by omega) ?_ | refine acc4_get_other (by omega) (by omega) (by omega) ?_ | refine acc4_get_ok (by omega) (by assumption) ?_ | refine opt3_split (fun h => ?_) (fun kind num tl h => ?_) | refine int_split (fun a h => ?_) (fun a h => ?_) | fail)) | ((conv => lhs; whnf); first | (apply lex_ok; (focus assumption)) | (apply lex_bad; (focus assumption)) | refine lex_split (fun l h => ?_) (fun a b h => ?_) | refine askP_ok (.inl ⟨_, Nat.le_trans (toksF_le _ _ _ _ _ _ ‹toksF _ _ _ _ _ = LexR.ok _›) (by first | omega | exact Nat.le_trans (Nat.succ_le_succ (Nat.min_le_right _ _)) (by decide)), rfl⟩) ?_ | refine askP_ok (.inr rfl) ?_ | fail))
      all_goals (try (conv => lhs; whnf))
      all_goals first
      | exact okIf_ok (frz_bool rfl)
      | (exfalso; have h9 : 9223372036854775807 < X + 1 := h; omega)
      | (exfalso; have h9 : 9223372036854775807 < X + 1 + Y := h; omega)
      | (exfalso; have h9 : 16384 < X + 1 + Y := h; omega)
    | ok m0 =>
      simp only [LexR.down, LexR.pre] at hJ
      have hll : l.length ≤ X + 1 := toksF_le _ _ _ _ _ _ hrx
      have hmm : m0.length ≤ Y + 1 := toksF_le _ _ _ _ _ _ hry
      obtain ⟨q, J⟩ := joined (l := l) (m := m0) (d := 1 + cntNL X N) (by obtain ⟨t, r', e, _⟩ := toks_head hrx; rw [e]; simp)
      generalize (l.dropLast ++ m0.map fun t => t.down (1 + cntNL X N)) = nn at hJ J
      obtain ⟨jl, jn, jf, js⟩ := J
      have hl1 : (l.map Tok.row).length = q + 1 := by rw [List.length_map, jl]
      have hm1 : (m0.map Tok.row).length = m0.length := by rw [List.length_map]
      have hn1 : (nn.map Tok.row).length = q + m0.length := by rw [List.length_map, jn]
      repeat' (first | (first | ((conv => lhs; whnf); first | ((conv => lhs; arg 1; whnf); refine valK_ok ?_) | refine forceB_ok ?_ | refine forceN_add ?_ | refine forceN_sub ?_ | refine forceN_suc ?_ | refine forceN_part ?_ | refine forceN_byte ?_ | refine forceN_ok ?_ | refine forceZ_add ?_ | refine forceZ_mul (by (try simp only [maxK]); omega) ?_ | refine forceZ_sub ?_ | refine forceZ_ok ?_ | refine rowAt_ok (byteRows_get (by (try simp only [maxK]); omega)) ?_ | (apply rowAt_ok; (focus assumption)) | refine br_true (Nat.beq_refl _) ?_ | refine br_true (by assumption) ?_ | refine br_false (by assumption) ?_ | refine br_max (by (try simp only [maxK]); omega) ?_ | refine br_ble_t (by (try simp only [maxK]); omega) ?_ | refine br_ble_f (by (try simp only [maxK]); omega) ?_ | refine br_beq_f (by (try simp only [maxK]); omega) ?_ | refine br_true (by simp only [Bool.and_eq_true, Nat.ble_eq]; (try simp only []); omega) ?_ | (refine br_ble (fun h => ?_) (fun h => ?_) <;> (try simp only [] at h)) | (refine br_beq (fun h => ?_) (fun h => ?_) <;> (try simp only [] at h)) | refine br_split (fun h => ?_) (fun h => ?_) | fail) | ((conv => lhs; whnf); first | refine acc4_upd_ok (by omega) ?_ | refine acc4_get_same (by omega) ?_ | refine acc4_get_other (by omega) (by omega) (by omega) ?_ | refine acc4_get_ok (by omega) (by assumption) ?_ | refine opt3_split (fun h => ?_) (fun kind num tl h => ?_) | refine int_split (fun a h => ?_) (fun a h => ?_) | fail)) | ((conv => lhs; whnf); first | (apply lex_ok; (focus assumption)) | (apply lex_bad; (focus assumption)) | refine lex_split (fun l h => ?_) (fun a b h => ?_) | refine askP_ok (.inl ⟨_, Nat.le_trans (toksF_le _ _ _ _ _ _ ‹toksF _ _ _ _ _ = LexR.ok _›) (by first | omega | exact Nat.le_trans (Nat.succ_le_succ (Nat.min_le_right _ _)) (by decide)), rfl⟩) ?_ | refine askP_ok (.inr rfl) ?_ | fail))
      all_goals (try (conv => lhs; whnf))
      all_goals try first
      | exact okIf_ok (frz_bool rfl)
      | (exfalso; have h9 : 9223372036854775807 < X + 1 := h; omega)
      | (exfalso; have h9 : 9223372036854775807 < X + 1 + Y := h; omega)
      | (exfalso; have h9 : 16384 < X + 1 + Y := h; omega)
      all_goals try (exfalso; omega)
      refine loop_ok (fun m tm hp' nx' => ∃ i lines, m = X - i ∧ i ≤ X ∧ lines + cntNL (X - i) (N / 256 ^ i) = 1 + cntNL X N ∧ lines ≤ i + 1 ∧ nx' = 0 ∧
        get2 tm 7 = .ps X N ∧ get2 tm 9 = .ro 5 (l.map Tok.row) ∧ get2 tm 13 = .ro 5 (m0.map Tok.row) ∧ get2 tm 17 = .ro 5 (nn.map Tok.row) ∧ get2 tm 21 = .int .i64 (.ofNat lines) ∧ get2 tm 22 = .int .i64 (.ofNat i) ∧ get2 tm 255 = .un) (m := X) (by omega)
        ⟨0, 1, rfl, by omega, by rw [Nat.pow_zero, Nat.div_one, Nat.sub_zero], by omega, rfl, rfl, rfl, rfl, rfl, rfl, rfl, rfl⟩ ?_
      rintro m tm hp' nx' ⟨i, lines, rfl, hi, hcn, hln, rfl, e7, e9, e13, e17, e21, e22, e255⟩ k hk
      (obtain ⟨y0, y1, y2, y3, y4, y5, y6, y7, y8, y9, y10, y11, y12, y13, y14, y15⟩ := tm; obtain ⟨x0, x1, x2, x3, x4, x5, x6, x7, x8, x9, x10, x11, x12, x13, x14, x15⟩ := y0; obtain ⟨x16, x17, x18, x19, x20, x21, x22, x23, x24, x25, x26, x27, x28, x29, x30, x31⟩ := y1; obtain ⟨x32, x33, x34, x35, x36, x37, x38, x39, x40, x41, x42, x43, x44, x45, x46, x47⟩ := y2; obtain ⟨x48, x49, x50, x51, x52, x53, x54, x55, x56, x57, x58, x59, x60, x61, x62, x63⟩ := y3; obtain ⟨x64, x65, x66, x67, x68, x69, x70, x71, x72, x73, x74, x75, x76, x77, x78, x79⟩ := y4; obtain ⟨x80, x81, x82, x83, x84, x85, x86, x87, x88, x89, x90, x91, x92, x93, x94, x95⟩ := y5; obtain ⟨x96, x97, x98, x99, x100, x101, x102, x103, x104, x105, x106, x107, x108, x109, x110, x111⟩ := y6; obtain ⟨x240, x241, x242, x243, x244, x245, x246, x247, x248, x249, x250, x251, x252, x253, x254, x255⟩ := y15)
      cases e7
      cases e9
      cases e13
      cases e17
      cases e21
      cases e22
      cases e255
      have hst := fun h => @cnt_step X N i h
      have hmod : N / 256 ^ i % 256 < 256 := Nat.mod_lt _ (by omega)
      rcases Nat.lt_or_ge i X with hlt2 | hge
      · have hst := hst hlt2
        repeat' ((conv => lhs; whnf); first | ((conv => lhs; arg 1; whnf); refine valK_ok ?_) | refine forceB_ok ?_ | refine forceN_add ?_ | refine forceN_sub ?_ | refine forceN_suc ?_ | refine forceN_part ?_ | refine forceN_byte ?_ | refine forceN_ok ?_ | refine forceZ_add ?_ | refine forceZ_mul (by (try simp only [maxK]); omega) ?_ | refine forceZ_sub ?_ | refine forceZ_ok ?_ | refine rowAt_ok (byteRows_get (by (try simp only [maxK]); omega)) ?_ | (apply rowAt_ok; (focus assumption)) | refine br_true (Nat.beq_refl _) ?_ | refine br_true (by assumption) ?_ | refine br_false (by assumption) ?_ | refine br_max (by (try simp only [maxK]); omega) ?_ | refine br_ble_t (by (try simp only [maxK]); omega) ?_ | refine br_ble_f (by (try simp only [maxK]); omega) ?_ | refine br_beq_f (by (try simp only [maxK]); omega) ?_ | refine br_true (by simp only [Bool.and_eq_true, Nat.ble_eq]; (try simp only []); omega) ?_ | (refine br_ble (fun h => ?_) (fun h => ?_) <;> (try simp only [] at h)) | (refine br_beq (fun h => ?_) (fun h => ?_) <;> (try simp only [] at h)) | refine br_split (fun h => ?_) (fun h => ?_) | fail)
        all_goals (try (conv => lhs; whnf))
        · have h10 := ‹N / 256 ^ i % 256 = 10›
          rw [h10, Nat.beq_refl] at hst
          simp only [] at hst
          exact hk _ _ _ _ (by omega) ⟨i + 1, lines + 1, rfl, by omega, by omega, by omega, rfl, rfl, rfl, rfl, rfl, rfl, rfl, rfl⟩
        · have h10 := ‹N / 256 ^ i % 256 ≠ 10›
          rw [beq_false_iff.mpr h10] at hst
          simp only [] at hst
          exact hk _ _ _ _ (by omega) ⟨i + 1, lines, rfl, by omega, by omega, by omega, rfl, rfl, rfl, rfl, rfl, rfl, rfl, rfl⟩
      obtain rfl : i = X := by omega
      clear hk
      rw [Nat.sub_self] at hcn
      obtain rfl : lines = 1 + cntNL i N := hcn
      generalize 1 + cntNL i N = D at *
      repeat' ((conv => lhs; whnf); first | ((conv => lhs; arg 1; whnf); refine valK_ok ?_) | refine forceB_ok ?_ | refine forceN_add ?_ | refine forceN_sub ?_ | refine forceN_suc ?_ | refine forceN_part ?_ | refine forceN_byte ?_ | refine forceN_ok ?_ | refine forceZ_add ?_ | refine forceZ_mul (by (try simp only [maxK]); omega) ?_ | refine forceZ_sub ?_ | refine forceZ_ok ?_ | refine rowAt_ok (byteRows_get (by (try simp only [maxK]); omega)) ?_ | (apply rowAt_ok; (focus assumption)) | refine br_true (Nat.beq_refl _) ?_ | refine br_true (by assumption) ?_ | refine br_false (by assumption) ?_ | refine br_max (by (try simp only [maxK]); omega) ?_ | refine br_ble_t (by (try simp only [maxK]); omega) ?_ | refine br_ble_f (by (try simp only [maxK]); omega) ?_ | refine br_beq_f (by (try simp only [maxK]); omega) ?_ | refine br_true (by simp only [Bool.and_eq_true, Nat.ble_eq]; (try simp only []); omega) ?_ | (refine br_ble (fun h => ?_) (fun h => ?_) <;> (try simp only [] at h)) | (refine br_beq (fun h => ?_) (fun h => ?_) <;> (try simp only [] at h)) | refine br_split (fun h => ?_) (fun h => ?_) | fail)
      conv => lhs; whnf
      refine loop_ok (fun m tm hp' nx' => ∃ j, m = nn.length - j ∧ j ≤ nn.length ∧ nx' + (nn.length - j) ≤ 5000 ∧
        get2 tm 9 = .ro 5 (l.map Tok.row) ∧ get2 tm 13 = .ro 5 (m0.map Tok.row) ∧ get2 tm 17 = .ro 5 (nn.map Tok.row) ∧ get2 tm 21 = .int .i64 (.ofNat D) ∧ get2 tm 111 = .int .i64 (.ofNat (nn.map Tok.row).length) ∧ get2 tm 112 = .int .i64 (.ofNat j) ∧ get2 tm 255 = .un) (m := nn.length) (by omega)
        ⟨0, rfl, by omega, by omega, rfl, rfl, rfl, rfl, rfl, rfl, rfl⟩ ?_
      rintro m tm hp' nx' ⟨j, rfl, hj, hnx, e9, e13, e17, e21, e111, e112, e255⟩ k hk
      (obtain ⟨y0, y1, y2, y3, y4, y5, y6, y7, y8, y9, y10, y11, y12, y13, y14, y15⟩ := tm; obtain ⟨x0, x1, x2, x3, x4, x5, x6, x7, x8, x9, x10, x11, x12, x13, x14, x15⟩ := y0; obtain ⟨x16, x17, x18, x19, x20, x21, x22, x23, x24, x25, x26, x27, x28, x29, x30, x31⟩ := y1; obtain ⟨x32, x33, x34, x35, x36, x37, x38, x39, x40, x41, x42, x43, x44, x45, x46, x47⟩ := y2; obtain ⟨x48, x49, x50, x51, x52, x53, x54, x55, x56, x57, x58, x59, x60, x61, x62, x63⟩ := y3; obtain ⟨x64, x65, x66, x67, x68, x69, x70, x71, x72, x73, x74, x75, x76, x77, x78, x79⟩ := y4; obtain ⟨x80, x81, x82, x83, x84, x85, x86, x87, x88, x89, x90, x91, x92, x93, x94, x95⟩ := y5; obtain ⟨x96, x97, x98, x99, x100, x101, x102, x103, x104, x105, x106, x107, x108, x109, x110, x111⟩ := y6; obtain ⟨x112, x113, x114, x115, x116, x117, x118, x119, x120, x121, x122, x123, x124, x125, x126, x127⟩ := y7; obtain ⟨x128, x129, x130, x131, x132, x133, x134, x135, x136, x137, x138, x139, x140, x141, x142, x143⟩ := y8; obtain ⟨x144, x145, x146, x147, x148, x149, x150, x151, x152, x153, x154, x155, x156, x157, x158, x159⟩ := y9; obtain ⟨x240, x241, x242, x243, x244, x245, x246, x247, x248, x249, x250, x251, x252, x253, x254, x255⟩ := y15)
      cases e9
      cases e13
      cases e17
      cases e21
      cases e111
      cases e112
      cases e255
      rcases Nat.lt_or_ge j nn.length with hjn | hjn
      · rcases Nat.lt_or_ge j q with hjq | hjq
        · obtain ⟨⟨a1, a2, a3, a4, a5, a6⟩, ht⟩ : ∃ t, l[j]? = some t := ⟨_, List.getElem?_eq_getElem (by omega)⟩
          have hrow : (l.map Tok.row)[j]? = some [.int .i64 (.ofNat a1), .int .i64 (.ofNat a2), .int .i64 (.ofNat a3), .int .i64 (.ofNat a4), .ps a5 a6] := by rw [List.getElem?_map, ht]; rfl
          have hrow2 : (nn.map Tok.row)[j]? = some [.int .i64 (.ofNat a1), .int .i64 (.ofNat a2), .int .i64 (.ofNat a3), .int .i64 (.ofNat a4), .ps a5 a6] := by rw [List.getElem?_map, jf j hjq, ht]; rfl
          repeat' (first | ((conv => lhs; whnf); first | ((conv => lhs; arg 1; whnf); refine valK_ok ?_) | refine forceB_ok ?_ | refine forceN_add ?_ | refine forceN_sub ?_ | refine forceN_suc ?_ | refine forceN_part ?_ | refine forceN_byte ?_ | refine forceN_ok ?_ | refine forceZ_add ?_ | refine forceZ_mul (by (try simp only [maxK]); omega) ?_ | refine forceZ_sub ?_ | refine forceZ_ok ?_ | refine rowAt_ok (byteRows_get (by (try simp only [maxK]); omega)) ?_ | (apply rowAt_ok; (focus assumption)) | refine br_true (Nat.beq_refl _) ?_ | refine br_true (by assumption) ?_ | refine br_false (by assumption) ?_ | refine br_max (by (try simp only [maxK]); omega) ?_ | refine br_ble_t (by (try simp only [maxK]); omega) ?_ | refine br_ble_f (by (try simp only [maxK]); omega) ?_ | refine br_beq_f (by (try simp only [maxK]); omega) ?_ | refine br_true (by simp only [Bool.and_eq_true, Nat.ble_eq]; (try simp only []); omega) ?_ | (refine br_ble (fun h => ?_) (fun h => ?_) <;> (try simp only [] at h)) | (refine br_beq (fun h => ?_) (fun h => ?_) <;> (try simp only [] at h)) | refine br_split (fun h => ?_) (fun h => ?_) | fail) | ((conv => lhs; whnf); first | refine acc4_upd_ok (by omega) ?_ | refine acc4_get_same (by omega) ?_ | refine acc4_get_other (by omega) (by omega) (by omega) ?_ | refine acc4_get_ok (by omega) (by assumption) ?_ | refine opt3_split (fun h => ?_) (fun kind num tl h => ?_) | refine int_split (fun a h => ?_) (fun a h => ?_) | fail))
          conv => lhs; whnf
          rw [qTok]
          repeat' (first | ((conv => lhs; whnf); first | ((conv => lhs; arg 1; whnf); refine valK_ok ?_) | refine forceB_ok ?_ | refine forceN_add ?_ | refine forceN_sub ?_ | refine forceN_suc ?_ | refine forceN_part ?_ | refine forceN_byte ?_ | refine forceN_ok ?_ | refine forceZ_add ?_ | refine forceZ_mul (by (try simp only [maxK]); omega) ?_ | refine forceZ_sub ?_ | refine forceZ_ok ?_ | refine rowAt_ok (byteRows_get (by (try simp only [maxK]); omega)) ?_ | (apply rowAt_ok; (focus assumption)) | refine br_true (Nat.beq_refl _) ?_ | refine br_true (by assumption) ?_ | refine br_false (by assumption) ?_ | refine br_max (by (try simp only [maxK]); omega) ?_ | refine br_ble_t (by (try simp only [maxK]); omega) ?_ | refine br_ble_f (by (try simp only [maxK]); omega) ?_ | refine br_beq_f (by (try simp only [maxK]); omega) ?_ | refine br_true (by simp only [Bool.and_eq_true, Nat.ble_eq]; (try simp only []); omega) ?_ | (refine br_ble (fun h => ?_) (fun h => ?_) <;> (try simp only [] at h)) | (refine br_beq (fun h => ?_) (fun h => ?_) <;> (try simp only [] at h)) | refine br_split (fun h => ?_) (fun h => ?_) | fail) | ((conv => lhs; whnf); first | refine acc4_upd_ok (by omega) ?_ | refine acc4_get_same (by omega) ?_ | refine acc4_get_other (by omega) (by omega) (by omega) ?_ | refine acc4_get_ok (by omega) (by assumption) ?_ | refine opt3_split (fun h => ?_) (fun kind num tl h => ?_) | refine int_split (fun a h => ?_) (fun a h => ?_) | fail))
          conv => lhs; whnf
          refine tok_same (tok_self ⟨a1, a2, a3, a4, a5, a6⟩) ?_
          repeat' (first | ((conv => lhs; whnf); first | ((conv => lhs; arg 1; whnf); refine valK_ok ?_) | refine forceB_ok ?_ | refine forceN_add ?_ | refine forceN_sub ?_ | refine forceN_suc ?_ | refine forceN_part ?_ | refine forceN_byte ?_ | refine forceN_ok ?_ | refine forceZ_add ?_ | refine forceZ_mul (by (try simp only [maxK]); omega) ?_ | refine forceZ_sub ?_ | refine forceZ_ok ?_ | refine rowAt_ok (byteRows_get (by (try simp only [maxK]); omega)) ?_ | (apply rowAt_ok; (focus assumption)) | refine br_true (Nat.beq_refl _) ?_ | refine br_true (by assumption) ?_ | refine br_false (by assumption) ?_ | refine br_max (by (try simp only [maxK]); omega) ?_ | refine br_ble_t (by (try simp only [maxK]); omega) ?_ | refine br_ble_f (by (try simp only [maxK]); omega) ?_ | refine br_beq_f (by (try simp only [maxK]); omega) ?_ | refine br_true (by simp only [Bool.and_eq_true, Nat.ble_eq]; (try simp only []); omega) ?_ | (refine br_ble (fun h => ?_) (fun h => ?_) <;> (try simp only [] at h)) | (refine br_beq (fun h => ?_) (fun h => ?_) <;> (try simp only [] at h)) | refine br_split (fun h => ?_) (fun h => ?_) | fail) | ((conv => lhs; whnf); first | refine acc4_upd_ok (by omega) ?_ | refine acc4_get_same (by omega) ?_ | refine acc4_get_other (by omega) (by omega) (by omega) ?_ | refine acc4_get_ok (by omega) (by assumption) ?_ | refine opt3_split (fun h => ?_) (fun kind num tl h => ?_) | refine int_split (fun a h => ?_) (fun a h => ?_) | fail))
          all_goals (try (conv => lhs; whnf))
          exact hk _ _ _ _ (by omega) ⟨j + 1, rfl, by omega, by omega, rfl, rfl, rfl, rfl, rfl, rfl, rfl⟩
        · obtain ⟨⟨a1, a2, a3, a4, a5, a6⟩, ht, htn⟩ := js j hjq (by omega)
          have ha3 := toks_line_le hry (List.mem_of_getElem? ht)
          simp only [] at ha3
          have hrow2 : (nn.map Tok.row)[j]? = some [.int .i64 (.ofNat a1), .int .i64 (.ofNat a2), .int .i64 (.ofNat (a3 + D)), .int .i64 (.ofNat a4), .ps a5 a6] := by rw [List.getElem?_map, htn]; rfl
          have hrow : ∀ c, c = j - q → (m0.map Tok.row)[c]? = some [.int .i64 (.ofNat a1), .int .i64 (.ofNat a2), .int .i64 (.ofNat a3), .int .i64 (.ofNat a4), .ps a5 a6] := fun c hc => by rw [hc, List.getElem?_map, ht]; rfl
          rcases Nat.lt_or_ge q j with hq | hq
          · have hrow3 := hrow (j - (l.map Tok.row).length + 1) (by omega)
            repeat' (first | ((conv => lhs; whnf); first | ((conv => lhs; arg 1; whnf); refine valK_ok ?_) | refine forceB_ok ?_ | refine forceN_add ?_ | refine forceN_sub ?_ | refine forceN_suc ?_ | refine forceN_part ?_ | refine forceN_byte ?_ | refine forceN_ok ?_ | refine forceZ_add ?_ | refine forceZ_mul (by (try simp only [maxK]); omega) ?_ | refine forceZ_sub ?_ | refine forceZ_ok ?_ | refine rowAt_ok (byteRows_get (by (try simp only [maxK]); omega)) ?_ | (apply rowAt_ok; (focus assumption)) | refine br_true (Nat.beq_refl _) ?_ | refine br_true (by assumption) ?_ | refine br_false (by assumption) ?_ | refine br_max (by (try simp only [maxK]); omega) ?_ | refine br_ble_t (by (try simp only [maxK]); omega) ?_ | refine br_ble_f (by (try simp only [maxK]); omega) ?_ | refine br_beq_f (by (try simp only [maxK]); omega) ?_ | refine br_true (by simp only [Bool.and_eq_true, Nat.ble_eq]; (try simp only []); omega) ?_ | (refine br_ble (fun h => ?_) (fun h => ?_) <;> (try simp only [] at h)) | (refine br_beq (fun h => ?_) (fun h => ?_) <;> (try simp only [] at h)) | refine br_split (fun h => ?_) (fun h => ?_) | fail) | ((conv => lhs; whnf); first | refine acc4_upd_ok (by omega) ?_ | refine acc4_get_same (by omega) ?_ | refine acc4_get_other (by omega) (by omega) (by omega) ?_ | refine acc4_get_ok (by omega) (by assumption) ?_ | refine opt3_split (fun h => ?_) (fun kind num tl h => ?_) | refine int_split (fun a h => ?_) (fun a h => ?_) | fail))
            all_goals (try (conv => lhs; whnf))
            rw [qTok]
            repeat' (first | ((conv => lhs; whnf); first | ((conv => lhs; arg 1; whnf); refine valK_ok ?_) | refine forceB_ok ?_ | refine forceN_add ?_ | refine forceN_sub ?_ | refine forceN_suc ?_ | refine forceN_part ?_ | refine forceN_byte ?_ | refine forceN_ok ?_ | refine forceZ_add ?_ | refine forceZ_mul (by (try simp only [maxK]); omega) ?_ | refine forceZ_sub ?_ | refine forceZ_ok ?_ | refine rowAt_ok (byteRows_get (by (try simp only [maxK]); omega)) ?_ | (apply rowAt_ok; (focus assumption)) | refine br_true (Nat.beq_refl _) ?_ | refine br_true (by assumption) ?_ | refine br_false (by assumption) ?_ | refine br_max (by (try simp only [maxK]); omega) ?_ | refine br_ble_t (by (try simp only [maxK]); omega) ?_ | refine br_ble_f (by (try simp only [maxK]); omega) ?_ | refine br_beq_f (by (try simp only [maxK]); omega) ?_ | refine br_true (by simp only [Bool.and_eq_true, Nat.ble_eq]; (try simp only []); omega) ?_ | (refine br_ble (fun h => ?_) (fun h => ?_) <;> (try simp only [] at h)) | (refine br_beq (fun h => ?_) (fun h => ?_) <;> (try simp only [] at h)) | refine br_split (fun h => ?_) (fun h => ?_) | fail) | ((conv => lhs; whnf); first | refine acc4_upd_ok (by omega) ?_ | refine acc4_get_same (by omega) ?_ | refine acc4_get_other (by omega) (by omega) (by omega) ?_ | refine acc4_get_ok (by omega) (by assumption) ?_ | refine opt3_split (fun h => ?_) (fun kind num tl h => ?_) | refine int_split (fun a h => ?_) (fun a h => ?_) | fail))
            conv => lhs; whnf
            refine tok_same (tok_self ⟨a1, a2, a3 + D, a4, a5, a6⟩) ?_
            repeat' (first | ((conv => lhs; whnf); first | ((conv => lhs; arg 1; whnf); refine valK_ok ?_) | refine forceB_ok ?_ | refine forceN_add ?_ | refine forceN_sub ?_ | refine forceN_suc ?_ | refine forceN_part ?_ | refine forceN_byte ?_ | refine forceN_ok ?_ | refine forceZ_add ?_ | refine forceZ_mul (by (try simp only [maxK]); omega) ?_ | refine forceZ_sub ?_ | refine forceZ_ok ?_ | refine rowAt_ok (byteRows_get (by (try simp only [maxK]); omega)) ?_ | (apply rowAt_ok; (focus assumption)) | refine br_true (Nat.beq_refl _) ?_ | refine br_true (by assumption) ?_ | refine br_false (by assumption) ?_ | refine br_max (by (try simp only [maxK]); omega) ?_ | refine br_ble_t (by (try simp only [maxK]); omega) ?_ | refine br_ble_f (by (try simp only [maxK]); omega) ?_ | refine br_beq_f (by (try simp only [maxK]); omega) ?_ | refine br_true (by simp only [Bool.and_eq_true, Nat.ble_eq]; (try simp only []); omega) ?_ | (refine br_ble (fun h => ?_) (fun h => ?_) <;> (try simp only [] at h)) | (refine br_beq (fun h => ?_) (fun h => ?_) <;> (try simp only [] at h)) | refine br_split (fun h => ?_) (fun h => ?_) | fail) | ((conv => lhs; whnf); first | refine acc4_upd_ok (by omega) ?_ | refine acc4_get_same (by omega) ?_ | refine acc4_get_other (by omega) (by omega) (by omega) ?_ | refine acc4_get_ok (by omega) (by assumption) ?_ | refine opt3_split (fun h => ?_) (fun kind num tl h => ?_) | refine int_split (fun a h => ?_) (fun a h => ?_) | fail))
            all_goals (try (conv => lhs; whnf))
            exact hk _ _ _ _ (by omega) ⟨j + 1, rfl, by omega, by omega, rfl, rfl, rfl, rfl, rfl, rfl, rfl⟩
          · have hrow3 := hrow 0 (by omega)
            have hw1 := ofNat_sub_neg (a := j) (b := (l.map Tok.row).length) (by omega)
            have hw2 : IntKind.i64.wrap (Int.negSucc 0 + Int.ofNat 1) = Int.ofNat 0 := by decide
            repeat' first | ((conv => lhs; whnf); first | (apply forceZ_as; (focus assumption)) | fail) | (first | ((conv => lhs; whnf); first | ((conv => lhs; arg 1; whnf); refine valK_ok ?_) | refine forceB_ok ?_ | refine forceN_add ?_ | refine forceN_sub ?_ | refine forceN_suc ?_ | refine forceN_part ?_ | refine forceN_byte ?_ | refine forceN_ok ?_ | refine forceZ_add ?_ | refine forceZ_mul (by (try simp only [maxK]); omega) ?_ | refine forceZ_sub ?_ | refine forceZ_ok ?_ | refine rowAt_ok (byteRows_get (by (try simp only [maxK]); omega)) ?_ | (apply rowAt_ok; (focus assumption)) | refine br_true (Nat.beq_refl _) ?_ | refine br_true (by assumption) ?_ | refine br_false (by assumption) ?_ | refine br_max (by (try simp only [maxK]); omega) ?_ | refine br_ble_t (by (try simp only [maxK]); omega) ?_ | refine br_ble_f (by (try simp only [maxK]); omega) ?_ | refine br_beq_f (by (try simp only [maxK]); omega) ?_ | refine br_true (by simp only [Bool.and_eq_true, Nat.ble_eq]; (try simp only []); omega) ?_ | (refine br_ble (fun h => ?_) (fun h => ?_) <;> (try simp only [] at h)) | (refine br_beq (fun h => ?_) (fun h => ?_) <;> (try simp only [] at h)) | refine br_split (fun h => ?_) (fun h => ?_) | fail) | ((conv => lhs; whnf); first | refine acc4_upd_ok (by omega) ?_ | refine acc4_get_same (by omega) ?_ | refine acc4_get_other (by omega) (by omega) (by omega) ?_ | refine acc4_get_ok (by omega) (by assumption) ?_ | refine opt3_split (fun h => ?_) (fun kind num tl h => ?_) | refine int_split (fun a h => ?_) (fun a h => ?_) | fail))
            all_goals (try (conv => lhs; whnf))
            rw [qTok]
            repeat' (first | ((conv => lhs; whnf); first | ((conv => lhs; arg 1; whnf); refine valK_ok ?_) | refine forceB_ok ?_ | refine forceN_add ?_ | refine forceN_sub ?_ | refine forceN_suc ?_ | refine forceN_part ?_ | refine forceN_byte ?_ | refine forceN_ok ?_ | refine forceZ_add ?_ | refine forceZ_mul (by (try simp only [maxK]); omega) ?_ | refine forceZ_sub ?_ | refine forceZ_ok ?_ | refine rowAt_ok (byteRows_get (by (try simp only [maxK]); omega)) ?_ | (apply rowAt_ok; (focus assumption)) | refine br_true (Nat.beq_refl _) ?_ | refine br_true (by assumption) ?_ | refine br_false (by assumption) ?_ | refine br_max (by (try simp only [maxK]); omega) ?_ | refine br_ble_t (by (try simp only [maxK]); omega) ?_ | refine br_ble_f (by (try simp only [maxK]); omega) ?_ | refine br_beq_f (by (try simp only [maxK]); omega) ?_ | refine br_true (by simp only [Bool.and_eq_true, Nat.ble_eq]; (try simp only []); omega) ?_ | (refine br_ble (fun h => ?_) (fun h => ?_) <;> (try simp only [] at h)) | (refine br_beq (fun h => ?_) (fun h => ?_) <;> (try simp only [] at h)) | refine br_split (fun h => ?_) (fun h => ?_) | fail) | ((conv => lhs; whnf); first | refine acc4_upd_ok (by omega) ?_ | refine acc4_get_same (by omega) ?_ | refine acc4_get_other (by omega) (by omega) (by omega) ?_ | refine acc4_get_ok (by omega) (by assumption) ?_ | refine opt3_split (fun h => ?_) (fun kind num tl h => ?_) | refine int_split (fun a h => ?_) (fun a h => ?_) | fail))
            conv => lhs; whnf
            refine tok_same (tok_self ⟨a1, a2, a3 + D, a4, a5, a6⟩) ?_
            repeat' (first | ((conv => lhs; whnf); first | ((conv => lhs; arg 1; whnf); refine valK_ok ?_) | refine forceB_ok ?_ | refine forceN_add ?_ | refine forceN_sub ?_ | refine forceN_suc ?_ | refine forceN_part ?_ | refine forceN_byte ?_ | refine forceN_ok ?_ | refine forceZ_add ?_ | refine forceZ_mul (by (try simp only [maxK]); omega) ?_ | refine forceZ_sub ?_ | refine forceZ_ok ?_ | refine rowAt_ok (byteRows_get (by (try simp only [maxK]); omega)) ?_ | (apply rowAt_ok; (focus assumption)) | refine br_true (Nat.beq_refl _) ?_ | refine br_true (by assumption) ?_ | refine br_false (by assumption) ?_ | refine br_max (by (try simp only [maxK]); omega) ?_ | refine br_ble_t (by (try simp only [maxK]); omega) ?_ | refine br_ble_f (by (try simp only [maxK]); omega) ?_ | refine br_beq_f (by (try simp only [maxK]); omega) ?_ | refine br_true (by simp only [Bool.and_eq_true, Nat.ble_eq]; (try simp only []); omega) ?_ | (refine br_ble (fun h => ?_) (fun h => ?_) <;> (try simp only [] at h)) | (refine br_beq (fun h => ?_) (fun h => ?_) <;> (try simp only [] at h)) | refine br_split (fun h => ?_) (fun h => ?_) | fail) | ((conv => lhs; whnf); first | refine acc4_upd_ok (by omega) ?_ | refine acc4_get_same (by omega) ?_ | refine acc4_get_other (by omega) (by omega) (by omega) ?_ | refine acc4_get_ok (by omega) (by assumption) ?_ | refine opt3_split (fun h => ?_) (fun kind num tl h => ?_) | refine int_split (fun a h => ?_) (fun a h => ?_) | fail))
            all_goals (try (conv => lhs; whnf))
            exact hk _ _ _ _ (by omega) ⟨j + 1, rfl, by omega, by omega, rfl, rfl, rfl, rfl, rfl, rfl, rfl⟩
      · repeat' (first | ((conv => lhs; whnf); first | ((conv => lhs; arg 1; whnf); refine valK_ok ?_) | refine forceB_ok ?_ | refine forceN_add ?_ | refine forceN_sub ?_ | refine forceN_suc ?_ | refine forceN_part ?_ | refine forceN_byte ?_ | refine forceN_ok ?_ | refine forceZ_add ?_ | refine forceZ_mul (by (try simp only [maxK]); omega) ?_ | refine forceZ_sub ?_ | refine forceZ_ok ?_ | refine rowAt_ok (byteRows_get (by (try simp only [maxK]); omega)) ?_ | (apply rowAt_ok; (focus assumption)) | refine br_true (Nat.beq_refl _) ?_ | refine br_true (by assumption) ?_ | refine br_false (by assumption) ?_ | refine br_max (by (try simp only [maxK]); omega) ?_ | refine br_ble_t (by (try simp only [maxK]); omega) ?_ | refine br_ble_f (by (try simp only [maxK]); omega) ?_ | refine br_beq_f (by (try simp only [maxK]); omega) ?_ | refine br_true (by simp only [Bool.and_eq_true, Nat.ble_eq]; (try simp only []); omega) ?_ | (refine br_ble (fun h => ?_) (fun h => ?_) <;> (try simp only [] at h)) | (refine br_beq (fun h => ?_) (fun h => ?_) <;> (try simp only [] at h)) | refine br_split (fun h => ?_) (fun h => ?_) | fail) | ((conv => lhs; whnf); first | refine acc4_upd_ok (by omega) ?_ | refine acc4_get_same (by omega) ?_ | refine acc4_get_other (by omega) (by omega) (by omega) ?_ | refine acc4_get_ok (by omega) (by assumption) ?_ | refine opt3_split (fun h => ?_) (fun kind num tl h => ?_) | refine int_split (fun a h => ?_) (fun a h => ?_) | fail))
        all_goals (try (conv => lhs; whnf))
        exact okIf_ok (frz_bool rfl)

end Go.Proofs.YtjljgldgkkfckaaDoor.M
