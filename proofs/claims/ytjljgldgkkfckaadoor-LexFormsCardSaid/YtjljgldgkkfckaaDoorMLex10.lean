/- The laws' helps: Same, wakes; the tokens as answers. -/
import Derived.Test.YtjljgldgkkfckaaDoorMLex9
namespace Go.Proofs.YtjljgldgkkfckaaDoor.M
open Go
set_option linter.unusedSimpArgs false
set_option linter.unusedVariables false
variable {ρ : Nat → Value}

noncomputable def lexX (r : LexR) (f : List Tok → Ans) (g : Nat → Nat → Ans) : Ans := LexR.rec (motive := fun _ => AnsT) f g r
theorem lexX_inv {r : LexR} {f : List Tok → Ans} {g : Nat → Nat → Ans} (h : lexX r f g = .ok) : (∃ l, r = .ok l ∧ f l = .ok) ∨ ∃ a b, r = .bad a b ∧ g a b = .ok := by
  cases r with
  | ok l => exact .inl ⟨l, rfl, h⟩
  | bad a b => exact .inr ⟨a, b, rfl, h⟩
theorem lex_split {r : LexR} {f : List Tok → Ans} {g : Nat → Nat → Ans} (h1 : ∀ l, r = .ok l → f l = .ok) (h2 : ∀ a b, r = .bad a b → g a b = .ok) : LexR.rec (motive := fun _ => AnsT) f g r = .ok := by
  cases r with
  | ok l => exact h1 l rfl
  | bad a b => exact h2 a b rfl
theorem lex_ok {r : LexR} {l : List Tok} {f : List Tok → Ans} {g : Nat → Nat → Ans} (h : r = .ok l) (hf : f l = .ok) : LexR.rec (motive := fun _ => AnsT) f g r = .ok := by subst h; exact hf
theorem lex_bad {r : LexR} {a b : Nat} {f : List Tok → Ans} {g : Nat → Nat → Ans} (h : r = .bad a b) (hf : g a b = .ok) : LexR.rec (motive := fun _ => AnsT) f g r = .ok := by subst h; exact hf

/-- Both lexers. -/
noncomputable def ovToks : OvT := fun args _ hp nx kr _ => match args with
  | [.ps len n] => must (Nat.ble len 16384) (lexX (toksF (len + 1) len n 1 1)
      (fun l => kr (.tup [.ro 5 (l.map Tok.row), .int .i64 (.ofNat 0), .int .i64 (.ofNat 0), .int .i64 (.ofNat 0)]) hp nx)
      (fun line col => kr (.tup [.sc (.slice none 0 0), .int .i64 (.ofNat line), .int .i64 (.ofNat col), .int .i64 (.ofNat 2)]) hp nx))
  | _ => .err 1
theorem ovToks_ok {f : FuncId} (hs : ∀ len n, len ≤ 16384 → Says ρ Tryd.prog f [.ps len n] (toksOut (toksF (len + 1) len n 1 1))) : OvOK ρ Tryd.prog f ovToks := by
  intro args forb hp nx kr kp h0
  unfold ovToks at h0
  split at h0
  · rename_i len n
    obtain ⟨c1, h1⟩ := must_inv h0
    refine (hs len n (Nat.le_of_ble_eq_true c1) (absO hp) nx (inL forb)).mono ?_
    rintro o O m ⟨e1, e2, e3⟩
    subst e1 e2 e3
    rcases lexX_inv h1 with ⟨l, e, h⟩ | ⟨a, b, e, h⟩ <;> rw [e] <;> exact ⟨hp, rfl, h⟩
  · exact Ans.no h0

/-- What is asked for. -/
noncomputable def askP (p : Prop) (k : Ans) : Ans := open Classical in if p then k else .err 9
theorem askP_ok {p : Prop} {k : Ans} (h : p) (hk : k = .ok) : askP p k = .ok := by unfold askP; rw [if_pos h]; exact hk
theorem askP_inv {p : Prop} {k : Ans} (h : askP p k = .ok) : p ∧ k = .ok := by
  unfold askP at h
  split at h
  · exact ⟨by assumption, h⟩
  · cases h

theorem unroll {c : Env → K3 → Tm → Hp → Nat → Ans} {E : Env} {R : Nat} {tm : Tm} {hp : Hp} {nx : Nat} (hR : 0 < R) (h : c E (roundsK c E (R - 1)) tm hp nx = .ok) : roundsK c E R tm hp nx = .ok := by
  obtain ⟨k, rfl⟩ : ∃ k, R = k + 1 := ⟨R - 1, by omega⟩
  exact h

/-- A run without unknowns that says true. -/
theorem says_true {P : Program} (hm : P.follows .mixedOrders = true) {G : Gl} (hG : GOK' P G) (n : Nat) {f : FuncId} (h : isOk (runF P G n f [] [] hp0 0 sayTrue sayNo) = true) : Says ρ P f [] (.bool true) := by
  refine says_frame (fun q hq => by cases hq) ?_
  have := run_sound (ρ := ρ) hm hG n (isOk_ok h)
  rw [absO_hp0, inL_nil] at this
  refine this.mono fun o O m hr => ?_
  cases o with
  | ret v =>
    obtain ⟨hp, _, h⟩ := hr
    obtain ⟨t, h1, h⟩ := V.onBool_inv h
    rcases boolK_inv h with ⟨rfl, _⟩ | ⟨_, h⟩
    · rw [h1]
      exact ⟨_, rfl, .flat _ rfl⟩
    · exact Ans.no h
  | panic v =>
    obtain ⟨hp, _, h⟩ := hr
    exact Ans.no h

theorem wakes_says : Says ρ Tryd.prog 13 [] (.bool true) := says_true follows globL_ok 9 (by decide +kernel)

/-- Tokens, compared. -/
def tokFs : List (Nat × Nat) := [(0, 0), (1, 0), (2, 0), (3, 0), (4, 2)]
theorem eqTy_tok : eqTy Tryd.prog 34 = some tokFs := by decide +kernel
def isStruct : Option Sh → Bool
  | some (.struct _) => true
  | _ => false
theorem isStruct_ok {o : Option Sh} (h : isStruct o = true) : ∃ F, o = some (.struct F) := by
  unfold isStruct at h
  split at h
  · exact ⟨_, rfl⟩
  · cases h
theorem qTok {x y : Operand} : qBin Tryd.prog .neq 34 x y = q2 x y fun v u _ hs k => aggsK tokFs v u fun p => k (.bool (!p)) hs := by
  have h : ∃ F, shOf Tryd.prog 34 = some (.struct F) := by
    exact isStruct_ok (by decide +kernel)
  obtain ⟨F, h⟩ := h
  unfold qBin
  simp only [h]
  unfold qAgg
  rw [eqTy_tok]
theorem tok_same {l : List V} {f : Bool → Ans} (hl : eqL tokFs l l = some true) (h : f true = .ok) : aggsK tokFs (.agg l) (.agg l) f = .ok := by
  show optK (eqL tokFs l l) (fun b => forceB b f) = .ok
  rw [hl]
  exact h
theorem tok_self (t : Tok) : eqL tokFs t.row t.row = some true := by
  simp [tokFs, eqL, Tok.row, eqC]

attribute [local irreducible] forceN forceZ forceB okIf roundsK valK rowAt
attribute [local irreducible] askP toksF aggsK
set_option maxRecDepth 100000

set_option maxHeartbeats 4000000 in
theorem same_says (l : List Tok) (hl : l.length ≤ 100000) : Says ρ Tryd.prog 12 [.ro 5 (l.map Tok.row), .ro 5 (l.map Tok.row)] (.bool true) := by
  have hml : (l.map Tok.row).length = l.length := by simp
  refine says_run (call := call0) follows globL_ok call0_ok (arg2 rfl rfl) ?_
  repeat' (first | ((conv => lhs; whnf); first | ((conv => lhs; arg 1; whnf); refine valK_ok ?_) | refine forceB_ok ?_ | refine forceN_add ?_ | refine forceN_sub ?_ | refine forceN_suc ?_ | refine forceN_part ?_ | refine forceN_byte ?_ | refine forceN_ok ?_ | refine forceZ_add ?_ | refine forceZ_mul (by (try simp only [maxK]); omega) ?_ | refine forceZ_sub ?_ | refine forceZ_ok ?_ | refine rowAt_ok (byteRows_get (by (try simp only [maxK]); omega)) ?_ | (apply rowAt_ok; (focus assumption)) | refine br_true (Nat.beq_refl _) ?_ | refine br_true (by assumption) ?_ | refine br_false (by assumption) ?_ | refine br_max (by (try simp only [maxK]); omega) ?_ | refine br_ble_t (by (try simp only [maxK]); omega) ?_ | refine br_ble_f (by (try simp only [maxK]); omega) ?_ | refine br_beq_f (by (try simp only [maxK]); omega) ?_ | refine br_true (by simp only [Bool.and_eq_true, Nat.ble_eq]; (try simp only []); omega) ?_ | (refine br_ble (fun h => ?_) (fun h => ?_) <;> (try simp only [] at h)) | (refine br_beq (fun h => ?_) (fun h => ?_) <;> (try simp only [] at h)) | refine br_split (fun h => ?_) (fun h => ?_) | fail) | ((conv => lhs; whnf); first | refine acc4_upd_ok (by omega) ?_ | refine acc4_get_same (by omega) ?_ | refine acc4_get_other (by omega) (by omega) (by omega) ?_ | refine acc4_get_ok (by omega) (by assumption) ?_ | refine opt3_split (fun h => ?_) (fun kind num tl h => ?_) | refine int_split (fun a h => ?_) (fun a h => ?_) | fail))
  conv => lhs; whnf
  refine loop_ok (fun m tm hp nx => ∃ i, m = l.length - i ∧ i ≤ l.length ∧ get2 tm 0 = .ro 5 (l.map Tok.row) ∧ get2 tm 1 = .ro 5 (l.map Tok.row) ∧ get2 tm 5 = .int .i64 (.ofNat i) ∧ get2 tm 255 = .un) (m := l.length) (by omega)
    ⟨0, rfl, by omega, rfl, rfl, rfl, rfl⟩ ?_
  rintro m tm hp nx ⟨i, rfl, hi, e0, e1, e5, e255⟩ k hk
  (obtain ⟨y0, y1, y2, y3, y4, y5, y6, y7, y8, y9, y10, y11, y12, y13, y14, y15⟩ := tm; obtain ⟨x0, x1, x2, x3, x4, x5, x6, x7, x8, x9, x10, x11, x12, x13, x14, x15⟩ := y0; obtain ⟨x16, x17, x18, x19, x20, x21, x22, x23, x24, x25, x26, x27, x28, x29, x30, x31⟩ := y1; obtain ⟨x32, x33, x34, x35, x36, x37, x38, x39, x40, x41, x42, x43, x44, x45, x46, x47⟩ := y2; obtain ⟨x240, x241, x242, x243, x244, x245, x246, x247, x248, x249, x250, x251, x252, x253, x254, x255⟩ := y15)
  cases e0
  cases e1
  cases e5
  cases e255
  rcases Nat.lt_or_ge i l.length with hlt | hge
  · obtain ⟨⟨a1, a2, a3, a4, a5, a6⟩, ht⟩ : ∃ t, l[i]? = some t := ⟨_, List.getElem?_eq_getElem hlt⟩
    have hrow : (l.map Tok.row)[i]? = some [.int .i64 (.ofNat a1), .int .i64 (.ofNat a2), .int .i64 (.ofNat a3), .int .i64 (.ofNat a4), .ps a5 a6] := by rw [List.getElem?_map, ht]; rfl
    repeat' (first | ((conv => lhs; whnf); first | ((conv => lhs; arg 1; whnf); refine valK_ok ?_) | refine forceB_ok ?_ | refine forceN_add ?_ | refine forceN_sub ?_ | refine forceN_suc ?_ | refine forceN_part ?_ | refine forceN_byte ?_ | refine forceN_ok ?_ | refine forceZ_add ?_ | refine forceZ_mul (by (try simp only [maxK]); omega) ?_ | refine forceZ_sub ?_ | refine forceZ_ok ?_ | refine rowAt_ok (byteRows_get (by (try simp only [maxK]); omega)) ?_ | (apply rowAt_ok; (focus assumption)) | refine br_true (Nat.beq_refl _) ?_ | refine br_true (by assumption) ?_ | refine br_false (by assumption) ?_ | refine br_max (by (try simp only [maxK]); omega) ?_ | refine br_ble_t (by (try simp only [maxK]); omega) ?_ | refine br_ble_f (by (try simp only [maxK]); omega) ?_ | refine br_beq_f (by (try simp only [maxK]); omega) ?_ | refine br_true (by simp only [Bool.and_eq_true, Nat.ble_eq]; (try simp only []); omega) ?_ | (refine br_ble (fun h => ?_) (fun h => ?_) <;> (try simp only [] at h)) | (refine br_beq (fun h => ?_) (fun h => ?_) <;> (try simp only [] at h)) | refine br_split (fun h => ?_) (fun h => ?_) | fail) | ((conv => lhs; whnf); first | refine acc4_upd_ok (by omega) ?_ | refine acc4_get_same (by omega) ?_ | refine acc4_get_other (by omega) (by omega) (by omega) ?_ | refine acc4_get_ok (by omega) (by assumption) ?_ | refine opt3_split (fun h => ?_) (fun kind num tl h => ?_) | refine int_split (fun a h => ?_) (fun a h => ?_) | fail))
    conv => lhs; whnf
    rw [qTok]
    repeat' (first | ((conv => lhs; whnf); first | ((conv => lhs; arg 1; whnf); refine valK_ok ?_) | refine forceB_ok ?_ | refine forceN_add ?_ | refine forceN_sub ?_ | refine forceN_suc ?_ | refine forceN_part ?_ | refine forceN_byte ?_ | refine forceN_ok ?_ | refine forceZ_add ?_ | refine forceZ_mul (by (try simp only [maxK]); omega) ?_ | refine forceZ_sub ?_ | refine forceZ_ok ?_ | refine rowAt_ok (byteRows_get (by (try simp only [maxK]); omega)) ?_ | (apply rowAt_ok; (focus assumption)) | refine br_true (Nat.beq_refl _) ?_ | refine br_true (by assumption) ?_ | refine br_false (by assumption) ?_ | refine br_max (by (try simp only [maxK]); omega) ?_ | refine br_ble_t (by (try simp only [maxK]); omega) ?_ | refine br_ble_f (by (try simp only [maxK]); omega) ?_ | refine br_beq_f (by (try simp only [maxK]); omega) ?_ | refine br_true (by simp only [Bool.and_eq_true, Nat.ble_eq]; (try simp only []); omega) ?_ | (refine br_ble (fun h => ?_) (fun h => ?_) <;> (try simp only [] at h)) | (refine br_beq (fun h => ?_) (fun h => ?_) <;> (try simp only [] at h)) | refine br_split (fun h => ?_) (fun h => ?_) | fail) | ((conv => lhs; whnf); first | refine acc4_upd_ok (by omega) ?_ | refine acc4_get_same (by omega) ?_ | refine acc4_get_other (by omega) (by omega) (by omega) ?_ | refine acc4_get_ok (by omega) (by assumption) ?_ | refine opt3_split (fun h => ?_) (fun kind num tl h => ?_) | refine int_split (fun a h => ?_) (fun a h => ?_) | fail))
    conv => lhs; whnf
    refine tok_same (tok_self ⟨a1, a2, a3, a4, a5, a6⟩) ?_
    repeat' (first | ((conv => lhs; whnf); first | ((conv => lhs; arg 1; whnf); refine valK_ok ?_) | refine forceB_ok ?_ | refine forceN_add ?_ | refine forceN_sub ?_ | refine forceN_suc ?_ | refine forceN_part ?_ | refine forceN_byte ?_ | refine forceN_ok ?_ | refine forceZ_add ?_ | refine forceZ_mul (by (try simp only [maxK]); omega) ?_ | refine forceZ_sub ?_ | refine forceZ_ok ?_ | refine rowAt_ok (byteRows_get (by (try simp only [maxK]); omega)) ?_ | (apply rowAt_ok; (focus assumption)) | refine br_true (Nat.beq_refl _) ?_ | refine br_true (by assumption) ?_ | refine br_false (by assumption) ?_ | refine br_max (by (try simp only [maxK]); omega) ?_ | refine br_ble_t (by (try simp only [maxK]); omega) ?_ | refine br_ble_f (by (try simp only [maxK]); omega) ?_ | refine br_beq_f (by (try simp only [maxK]); omega) ?_ | refine br_true (by simp only [Bool.and_eq_true, Nat.ble_eq]; (try simp only []); omega) ?_ | (refine br_ble (fun h => ?_) (fun h => ?_) <;> (try simp only [] at h)) | (refine br_beq (fun h => ?_) (fun h => ?_) <;> (try simp only [] at h)) | refine br_split (fun h => ?_) (fun h => ?_) | fail) | ((conv => lhs; whnf); first | refine acc4_upd_ok (by omega) ?_ | refine acc4_get_same (by omega) ?_ | refine acc4_get_other (by omega) (by omega) (by omega) ?_ | refine acc4_get_ok (by omega) (by assumption) ?_ | refine opt3_split (fun h => ?_) (fun kind num tl h => ?_) | refine int_split (fun a h => ?_) (fun a h => ?_) | fail))
    all_goals (try (conv => lhs; whnf))
    exact hk _ _ _ _ (by omega) ⟨i + 1, rfl, by omega, rfl, rfl, rfl, rfl⟩
  · repeat' (first | ((conv => lhs; whnf); first | ((conv => lhs; arg 1; whnf); refine valK_ok ?_) | refine forceB_ok ?_ | refine forceN_add ?_ | refine forceN_sub ?_ | refine forceN_suc ?_ | refine forceN_part ?_ | refine forceN_byte ?_ | refine forceN_ok ?_ | refine forceZ_add ?_ | refine forceZ_mul (by (try simp only [maxK]); omega) ?_ | refine forceZ_sub ?_ | refine forceZ_ok ?_ | refine rowAt_ok (byteRows_get (by (try simp only [maxK]); omega)) ?_ | (apply rowAt_ok; (focus assumption)) | refine br_true (Nat.beq_refl _) ?_ | refine br_true (by assumption) ?_ | refine br_false (by assumption) ?_ | refine br_max (by (try simp only [maxK]); omega) ?_ | refine br_ble_t (by (try simp only [maxK]); omega) ?_ | refine br_ble_f (by (try simp only [maxK]); omega) ?_ | refine br_beq_f (by (try simp only [maxK]); omega) ?_ | refine br_true (by simp only [Bool.and_eq_true, Nat.ble_eq]; (try simp only []); omega) ?_ | (refine br_ble (fun h => ?_) (fun h => ?_) <;> (try simp only [] at h)) | (refine br_beq (fun h => ?_) (fun h => ?_) <;> (try simp only [] at h)) | refine br_split (fun h => ?_) (fun h => ?_) | fail) | ((conv => lhs; whnf); first | refine acc4_upd_ok (by omega) ?_ | refine acc4_get_same (by omega) ?_ | refine acc4_get_other (by omega) (by omega) (by omega) ?_ | refine acc4_get_ok (by omega) (by assumption) ?_ | refine opt3_split (fun h => ?_) (fun kind num tl h => ?_) | refine int_split (fun a h => ?_) (fun a h => ?_) | fail))
    all_goals (try (conv => lhs; whnf))
    exact okIf_ok (frz_bool rfl)

set_option maxHeartbeats 4000000 in
theorem same_nil : Says ρ Tryd.prog 12 [.sc (.slice none 0 0), .sc (.slice none 0 0)] (.bool true) := by
  refine says_run (call := call0) follows globL_ok call0_ok (arg2 rfl rfl) ?_
  repeat' (first | ((conv => lhs; whnf); first | ((conv => lhs; arg 1; whnf); refine valK_ok ?_) | refine forceB_ok ?_ | refine forceN_add ?_ | refine forceN_sub ?_ | refine forceN_suc ?_ | refine forceN_part ?_ | refine forceN_byte ?_ | refine forceN_ok ?_ | refine forceZ_add ?_ | refine forceZ_mul (by (try simp only [maxK]); omega) ?_ | refine forceZ_sub ?_ | refine forceZ_ok ?_ | refine rowAt_ok (byteRows_get (by (try simp only [maxK]); omega)) ?_ | (apply rowAt_ok; (focus assumption)) | refine br_true (Nat.beq_refl _) ?_ | refine br_true (by assumption) ?_ | refine br_false (by assumption) ?_ | refine br_max (by (try simp only [maxK]); omega) ?_ | refine br_ble_t (by (try simp only [maxK]); omega) ?_ | refine br_ble_f (by (try simp only [maxK]); omega) ?_ | refine br_beq_f (by (try simp only [maxK]); omega) ?_ | refine br_true (by simp only [Bool.and_eq_true, Nat.ble_eq]; (try simp only []); omega) ?_ | (refine br_ble (fun h => ?_) (fun h => ?_) <;> (try simp only [] at h)) | (refine br_beq (fun h => ?_) (fun h => ?_) <;> (try simp only [] at h)) | refine br_split (fun h => ?_) (fun h => ?_) | fail) | ((conv => lhs; whnf); first | refine acc4_upd_ok (by omega) ?_ | refine acc4_get_same (by omega) ?_ | refine acc4_get_other (by omega) (by omega) (by omega) ?_ | refine acc4_get_ok (by omega) (by assumption) ?_ | refine opt3_split (fun h => ?_) (fun kind num tl h => ?_) | refine int_split (fun a h => ?_) (fun a h => ?_) | fail))
  refine unroll (by unfold rounds0; omega) ?_
  repeat' (first | ((conv => lhs; whnf); first | ((conv => lhs; arg 1; whnf); refine valK_ok ?_) | refine forceB_ok ?_ | refine forceN_add ?_ | refine forceN_sub ?_ | refine forceN_suc ?_ | refine forceN_part ?_ | refine forceN_byte ?_ | refine forceN_ok ?_ | refine forceZ_add ?_ | refine forceZ_mul (by (try simp only [maxK]); omega) ?_ | refine forceZ_sub ?_ | refine forceZ_ok ?_ | refine rowAt_ok (byteRows_get (by (try simp only [maxK]); omega)) ?_ | (apply rowAt_ok; (focus assumption)) | refine br_true (Nat.beq_refl _) ?_ | refine br_true (by assumption) ?_ | refine br_false (by assumption) ?_ | refine br_max (by (try simp only [maxK]); omega) ?_ | refine br_ble_t (by (try simp only [maxK]); omega) ?_ | refine br_ble_f (by (try simp only [maxK]); omega) ?_ | refine br_beq_f (by (try simp only [maxK]); omega) ?_ | refine br_true (by simp only [Bool.and_eq_true, Nat.ble_eq]; (try simp only []); omega) ?_ | (refine br_ble (fun h => ?_) (fun h => ?_) <;> (try simp only [] at h)) | (refine br_beq (fun h => ?_) (fun h => ?_) <;> (try simp only [] at h)) | refine br_split (fun h => ?_) (fun h => ?_) | fail) | ((conv => lhs; whnf); first | refine acc4_upd_ok (by omega) ?_ | refine acc4_get_same (by omega) ?_ | refine acc4_get_other (by omega) (by omega) (by omega) ?_ | refine acc4_get_ok (by omega) (by assumption) ?_ | refine opt3_split (fun h => ?_) (fun kind num tl h => ?_) | refine int_split (fun a h => ?_) (fun a h => ?_) | fail))
  all_goals (try (conv => lhs; whnf))
  exact okIf_ok (frz_bool rfl)

/-- The same tokens twice, or none. -/
def SameArgs (args : List V) : Prop := (∃ l : List Tok, l.length ≤ 100000 ∧ args = [.ro 5 (l.map Tok.row), .ro 5 (l.map Tok.row)]) ∨ args = [.sc (.slice none 0 0), .sc (.slice none 0 0)]
noncomputable def ovSame : OvT := fun args _ hp nx kr _ => askP (SameArgs args) (kr (.bool true) hp nx)
theorem ovSame_ok : OvOK ρ Tryd.prog 12 ovSame := by
  intro args forb hp nx kr kp h0
  obtain ⟨h1, h2⟩ := askP_inv h0
  have hs : Says ρ Tryd.prog 12 args (.bool true) := by
    rcases h1 with ⟨l, hl, rfl⟩ | rfl
    · exact same_says l hl
    · exact same_nil
  refine (hs (absO hp) nx (inL forb)).mono ?_
  rintro o O m ⟨e1, e2, e3⟩
  subst e1 e2 e3
  exact ⟨hp, rfl, h2⟩

noncomputable def ovWakes : OvT := ovF fun | [] => some (true, .bool true) | _ => none
theorem ovWakes_ok : OvOK ρ Tryd.prog 13 ovWakes := ov_says fun args v h => by
  split at h
  · injection h with h
    injection h with g1 g2
    subst g2
    exact wakes_says
  · cases h

theorem toksF_le : ∀ (f l n line col : Nat) (r : List Tok), toksF f l n line col = .ok r → r.length ≤ f
  | 0, l, n, line, col, r, h => by simp [toksF] at h
  | f + 1, l, n, line, col, r, h => by
    unfold toksF at h
    simp only at h
    split at h
    · cases h
    · split at h
      · cases h; simp
      · rename_i kind num tl _ _ _
        generalize hr : toksF f _ _ _ _ = x at h
        cases x with
        | ok l2 =>
          have := toksF_le _ _ _ _ _ _ hr
          simp only [LexR.pre] at h
          cases h
          simp; omega
        | bad a b => cases h

end Go.Proofs.YtjljgldgkkfckaaDoor.M
