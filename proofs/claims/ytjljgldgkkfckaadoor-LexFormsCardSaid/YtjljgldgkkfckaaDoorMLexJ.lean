/- Tokens of two texts with a line's end between. -/
import Derived.Test.YtjljgldgkkfckaaDoorMLex11
namespace Go.Proofs.YtjljgldgkkfckaaDoor.M
open Go
set_option linter.unusedSimpArgs false
set_option linter.unusedVariables false

/-! ### Where the first token stands -/

theorem blanksF_ge : ∀ {f l n line col : Nat}, line < (blanksF f l n line col).2.2.1 ∨ (blanksF f l n line col).2.2.1 = line ∧ col ≤ (blanksF f l n line col).2.2.2
  | 0, l, n, line, col => .inr ⟨rfl, Nat.le_refl _⟩
  | f + 1, l, n, line, col => by
    by_cases h0 : l = 0
    · rw [blanks_end (.inl h0)]; exact .inr ⟨rfl, Nat.le_refl _⟩
    by_cases h1 : n % 256 = 32 ∨ n % 256 = 9
    · rw [blanks_blank (by omega) h1]
      have := blanksF_ge (f := f) (l := l - 1) (n := n / 256) (line := line) (col := col + 1)
      omega
    by_cases h2 : n % 256 = 10
    · rw [blanks_line (by omega) h2]
      have := blanksF_ge (f := f) (l := l - 1) (n := n / 256) (line := line + 1) (col := 1)
      omega
    by_cases h3 : n % 256 = 35
    · rw [blanks_word (by omega) h3]
      have := blanksF_ge (f := f) (l := l - runP lineB l n) (n := n / 256 ^ runP lineB l n) (line := line) (col := col + runP lineB l n)
      omega
    · rw [blanks_end (.inr ⟨by omega, by omega, h2, h3⟩)]; exact .inr ⟨rfl, Nat.le_refl _⟩

theorem toks_head {F l x line col : Nat} {r : List Tok} (h : toksF F l x line col = .ok r) : ∃ t r', r = t :: r' ∧ (line < t.line ∨ t.line = line ∧ col ≤ t.col) := by
  cases F with
  | zero => simp [toksF] at h
  | succ F =>
    have hge := blanksF_ge (f := l) (l := l) (n := x) (line := line) (col := col)
    cases ht : tokM (blanksF l l x line col).1 (blanksF l l x line col).2.1 with
    | none => rw [toks_bad ht] at h; cases h
    | some t =>
      obtain ⟨kind, num, tl⟩ := t
      by_cases hk : kind = 4
      · subst hk
        rw [toks_end ht] at h
        cases h
        exact ⟨_, _, rfl, hge⟩
      · rw [toks_more ht hk] at h
        generalize hx : toksF F _ _ _ _ = y at h
        cases y with
        | ok r2 =>
          simp only [LexR.pre] at h
          cases h
          exact ⟨_, _, rfl, hge⟩
        | bad a b => cases h

theorem pre_ok {a r : List Tok} {x : LexR} (h : x.pre a = .ok r) : ∃ r2, x = .ok r2 ∧ r = a ++ r2 := by
  cases x with
  | ok r2 => cases h; exact ⟨r2, rfl, rfl⟩
  | bad a b => cases h

theorem drop_head {l r : List Tok} {t : Tok} {k : Nat} (h : l.drop k = t :: r) : l[k]? = some t ∧ k < l.length ∧ l.drop (k + 1) = r ∧ l.length = k + 1 + r.length := by
  have hk : k < l.length := by
    rcases Nat.lt_or_ge k l.length with h1 | h1
    · exact h1
    · rw [List.drop_eq_nil_of_le h1] at h; cases h
  rw [List.drop_eq_getElem_cons hk] at h
  injection h with h1 h2
  have h3 := congrArg List.length h2
  rw [List.length_drop] at h3
  exact ⟨by rw [List.getElem?_eq_getElem hk, h1], hk, h2, by omega⟩

theorem blanksF_le : ∀ {f l n line col : Nat}, (blanksF f l n line col).1 ≤ l
  | 0, l, n, line, col => Nat.le_refl _
  | f + 1, l, n, line, col => by
    by_cases h0 : l = 0
    · rw [blanks_end (.inl h0)]; exact Nat.le_refl _
    by_cases h1 : n % 256 = 32 ∨ n % 256 = 9
    · rw [blanks_blank (by omega) h1]
      have := blanksF_le (f := f) (l := l - 1) (n := n / 256) (line := line) (col := col + 1)
      omega
    by_cases h2 : n % 256 = 10
    · rw [blanks_line (by omega) h2]
      have := blanksF_le (f := f) (l := l - 1) (n := n / 256) (line := line + 1) (col := 1)
      omega
    by_cases h3 : n % 256 = 35
    · rw [blanks_word (by omega) h3]
      have := blanksF_le (f := f) (l := l - runP lineB l n) (n := n / 256 ^ runP lineB l n) (line := line) (col := col + runP lineB l n)
      omega
    · rw [blanks_end (.inr ⟨by omega, by omega, h2, h3⟩)]; exact Nat.le_refl _

theorem toksF_fuel : ∀ {f g l x line col : Nat}, l < f → l < g → toksF f l x line col = toksF g l x line col
  | 0, _, _, _, _, _, h, _ => by omega
  | _, 0, _, _, _, _, _, h => by omega
  | f + 1, g + 1, l, x, line, col, hf, hg => by
    have hb := blanksF_le (f := l) (l := l) (n := x) (line := line) (col := col)
    cases ht : tokM (blanksF l l x line col).1 (blanksF l l x line col).2.1 with
    | none => rw [toks_bad ht, toks_bad ht]
    | some t =>
      obtain ⟨kind, num, tl⟩ := t
      obtain ⟨h1, h2⟩ := tokM_facts ht
      by_cases hk : kind = 4
      · subst hk
        rw [toks_end ht, toks_end ht]
      · rw [toks_more ht hk, toks_more ht hk, toksF_fuel (f := f) (g := g) (by omega) (by omega)]

/-- Tokens, with as many rounds as are wanted. -/
def G (l x line col : Nat) : LexR := toksF (l + 1) l x line col

theorem g_def {l x line col : Nat} : toksF (l + 1) l x line col = G l x line col := rfl
theorem g_head {l x line col : Nat} {r : List Tok} (h : G l x line col = .ok r) : ∃ t r', r = t :: r' ∧ (line < t.line ∨ t.line = line ∧ col ≤ t.col) := toks_head h
theorem g_of {F l x line col : Nat} (h : l < F) : toksF F l x line col = G l x line col := toksF_fuel h (by omega)
theorem g_blank {l x line col : Nat} (h : 0 < l) (hb : x % 256 = 32 ∨ x % 256 = 9) : G l x line col = G (l - 1) (x / 256) line (col + 1) := by
  rw [← g_of (show l - 1 < l + 1 by omega), G]
  refine toks_of_blanks ?_
  obtain ⟨m, rfl⟩ : ∃ m, l = m + 1 := ⟨l - 1, by omega⟩
  rw [blanks_blank (by omega) hb]
  rfl
theorem g_line {l x line col : Nat} (h : 0 < l) (hb : x % 256 = 10) : G l x line col = G (l - 1) (x / 256) (line + 1) 1 := by
  rw [← g_of (show l - 1 < l + 1 by omega), G]
  refine toks_of_blanks ?_
  obtain ⟨m, rfl⟩ : ∃ m, l = m + 1 := ⟨l - 1, by omega⟩
  rw [blanks_line (by omega) hb]
  rfl
theorem g_rem {l x line col : Nat} (h : 0 < l) (hb : x % 256 = 35) : G l x line col = G (l - runP lineB l x) (x / 256 ^ runP lineB l x) line (col + runP lineB l x) := by
  rw [← g_of (show l - runP lineB l x < l + 1 by omega), G]
  refine toks_of_blanks ?_
  have hp : 0 < runP lineB l x := runP_pos h (by rw [hb]; rfl)
  obtain ⟨m, rfl⟩ : ∃ m, l = m + 1 := ⟨l - 1, by omega⟩
  rw [blanks_word (by omega) hb]
  exact blanksF_fuel (by omega) (by omega)
theorem g_bad {l x line col : Nat} (hb : x % 256 ≠ 32 ∧ x % 256 ≠ 9 ∧ x % 256 ≠ 10 ∧ x % 256 ≠ 35) (h : tokM l x = none) : G l x line col = .bad line col := by
  simp only [G, toksF, blanks_end (.inr hb), h]
theorem g_more {l x line col kind num tl : Nat} (hb : x % 256 ≠ 32 ∧ x % 256 ≠ 9 ∧ x % 256 ≠ 10 ∧ x % 256 ≠ 35) (h : tokM l x = some (kind, num, tl)) (hk : kind ≠ 4) :
    G l x line col = (G (l - tl) (x / 256 ^ tl) line (col + tl)).pre [⟨kind, num, line, col, tl, x % 256 ^ tl⟩] := by
  obtain ⟨h1, h2⟩ := tokM_facts h
  rw [← g_of (show l - tl < l by omega), G]
  simp only [toksF, blanks_end (.inr hb), h, beq_false_iff.mpr hk]
theorem g_end {x line col : Nat} : G 0 x line col = .ok [⟨4, 0, line, col, 0, 0⟩] := by
  simp only [G, toksF, blanks_end (.inl rfl), show tokM 0 x = some (4, 0, 0) from rfl]

/-! ### Lines -/

def Tok.down (t : Tok) (d : Nat) : Tok := { t with line := t.line + d }
def LexR.down (r : LexR) (d : Nat) : LexR := match r with
  | .ok l => .ok (l.map fun t => t.down d)
  | .bad a b => .bad (a + d) b
theorem LexR.pre_down {a : List Tok} {r : LexR} {d : Nat} : (r.pre a).down d = (r.down d).pre (a.map fun t => t.down d) := by
  cases r <;> simp [LexR.pre, LexR.down]

theorem g_down (d : Nat) : ∀ (l x line col : Nat), G l x (line + d) col = (G l x line col).down d := by
  intro l
  induction l using Nat.strongRecOn with
  | ind l ih =>
    intro x line col
    by_cases h0 : l = 0
    · subst h0; rw [g_end, g_end]; rfl
    by_cases h1 : x % 256 = 32 ∨ x % 256 = 9
    · rw [g_blank (by omega) h1, g_blank (by omega) h1, ih _ (by omega)]
    by_cases h2 : x % 256 = 10
    · rw [g_line (by omega) h2, g_line (by omega) h2, show line + d + 1 = line + 1 + d by omega, ih _ (by omega)]
    by_cases h3 : x % 256 = 35
    · have hp : 0 < runP lineB l x := runP_pos (by omega) (by rw [h3]; rfl)
      rw [g_rem (by omega) h3, g_rem (by omega) h3, ih _ (by omega)]
    · have hb : x % 256 ≠ 32 ∧ x % 256 ≠ 9 ∧ x % 256 ≠ 10 ∧ x % 256 ≠ 35 := ⟨by omega, by omega, h2, h3⟩
      cases ht : tokM l x with
      | none => rw [g_bad hb ht, g_bad hb ht]; rfl
      | some t =>
        obtain ⟨kind, num, tl⟩ := t
        obtain ⟨e1, e2⟩ := tokM_facts ht
        rw [g_more hb ht (by omega), g_more hb ht (by omega), ih _ (by omega), LexR.pre_down]
        rfl

/-- How many lines end in a text. -/
def cntNL : Nat → Nat → Nat
  | 0, _ => 0
  | l + 1, n => (match Nat.beq (n % 256) 10 with | true => 1 | false => 0) + cntNL l (n / 256)

theorem cnt_run {p : Nat → Bool} (hp : p 10 = false) : ∀ {l n : Nat}, cntNL l n = cntNL (l - runP p l n) (n / 256 ^ runP p l n)
  | 0, n => by simp [runP]
  | l + 1, n => by
    cases e : p (n % 256) with
    | false => simp [runP, e]
    | true =>
      have h10 : n % 256 ≠ 10 := fun h => by rw [h, hp] at e; cases e
      have ih := cnt_run (p := p) hp (l := l) (n := n / 256)
      simp only [runP, e, cntNL, beq_false_iff.mpr h10]
      rw [Nat.pow_succ, Nat.mul_comm, ← Nat.div_div_eq_div_mul, Nat.zero_add, ih, show l + 1 - (runP p l (n / 256) + 1) = l - runP p l (n / 256) by omega]
theorem cnt_one {l n : Nat} (h : 0 < l) (h10 : n % 256 ≠ 10) : cntNL l n = cntNL (l - 1) (n / 256) := by
  obtain ⟨m, rfl⟩ : ∃ m, l = m + 1 := ⟨l - 1, by omega⟩
  simp only [cntNL, beq_false_iff.mpr h10]
  rw [Nat.zero_add]
  rfl
theorem cnt_nl {l n : Nat} (h : 0 < l) (h10 : n % 256 = 10) : cntNL l n = 1 + cntNL (l - 1) (n / 256) := by
  obtain ⟨m, rfl⟩ : ∃ m, l = m + 1 := ⟨l - 1, by omega⟩
  simp only [cntNL, h10, Nat.beq_refl]
  rfl

/-- A token is a run, or one sign. -/
theorem tokM_run {l n kind num tl : Nat} (h0 : 0 < l) (h : tokM l n = some (kind, num, tl)) : (tl = runP innerB l n ∨ tl = runP digitB l n) ∨ tl = 1 := by
  unfold tokM at h
  rw [beq_false_iff.mpr (show l ≠ 0 by omega)] at h
  simp only at h
  split at h
  · split at h <;> simp at h
    exact .inl (.inl h.2.2.symm)
  · split at h
    · split at h <;> simp at h
      exact .inl (.inr h.2.2.symm)
    · split at h <;> simp at h
      exact .inr h.2.2.symm

theorem cnt_tok {l n kind num tl : Nat} (h0 : 0 < l) (h10 : n % 256 ≠ 10) (h : tokM l n = some (kind, num, tl)) : cntNL l n = cntNL (l - tl) (n / 256 ^ tl) := by
  rcases tokM_run h0 h with (rfl | rfl) | rfl
  · exact cnt_run rfl
  · exact cnt_run rfl
  · rw [Nat.pow_one]; exact cnt_one h0 h10

/-- The last token's line. -/
def lastL (r : List Tok) : Nat := match r.getLast? with
  | some t => t.line
  | none => 0
theorem lastL_cons {t : Tok} {r : List Tok} (h : r ≠ []) : lastL (t :: r) = lastL r := by
  unfold lastL
  rw [List.getLast?_cons]
  cases e : r.getLast? with
  | none => exact absurd (List.getLast?_eq_none_iff.mp e) h
  | some x => rfl

theorem g_ne {l x line col : Nat} {r : List Tok} (h : G l x line col = .ok r) : r ≠ [] := by
  obtain ⟨t, r', rfl, _⟩ := toks_head h
  simp

theorem g_lines : ∀ (l x line col : Nat) (r : List Tok), G l x line col = .ok r → lastL r = line + cntNL l x := by
  intro l
  induction l using Nat.strongRecOn with
  | ind l ih =>
    intro x line col r h
    by_cases h0 : l = 0
    · subst h0; rw [g_end] at h; cases h; rfl
    by_cases h1 : x % 256 = 32 ∨ x % 256 = 9
    · rw [g_blank (by omega) h1] at h
      rw [ih _ (by omega) _ _ _ _ h, cnt_one (l := l) (by omega) (by omega)]
    by_cases h2 : x % 256 = 10
    · rw [g_line (by omega) h2] at h
      rw [ih _ (by omega) _ _ _ _ h, cnt_nl (l := l) (by omega) h2]
      omega
    by_cases h3 : x % 256 = 35
    · have hp : 0 < runP lineB l x := runP_pos (by omega) (by rw [h3]; rfl)
      rw [g_rem (by omega) h3] at h
      rw [ih _ (by omega) _ _ _ _ h, ← cnt_run (p := lineB) (l := l) (n := x) rfl]
    · have hb : x % 256 ≠ 32 ∧ x % 256 ≠ 9 ∧ x % 256 ≠ 10 ∧ x % 256 ≠ 35 := ⟨by omega, by omega, h2, h3⟩
      cases ht : tokM l x with
      | none => rw [g_bad hb ht] at h; cases h
      | some t =>
        obtain ⟨kind, num, tl⟩ := t
        obtain ⟨e1, e2⟩ := tokM_facts ht
        rw [g_more hb ht (by omega)] at h
        obtain ⟨r2, hg, rfl⟩ := pre_ok h
        rw [List.singleton_append, lastL_cons (g_ne hg), ih _ (by omega) _ _ _ _ hg, cnt_tok (by omega) h2 ht]

/-! ### Texts with the same bytes, and a line's end behind the shorter -/

structure SameB (l n L k : Nat) : Prop where
  lt : l < L
  byte : ∀ j, j < l → k / 256 ^ j % 256 = n / 256 ^ j % 256
  nl : k / 256 ^ l % 256 = 10

theorem SameB.head {l n L k : Nat} (h : SameB l n L k) (h0 : 0 < l) : k % 256 = n % 256 := by
  have := h.byte 0 h0
  simpa using this
theorem SameB.tail {l n L k : Nat} (h : SameB l n L k) {m : Nat} (hm : m ≤ l) : SameB (l - m) (n / 256 ^ m) (L - m) (k / 256 ^ m) where
  lt := by have := h.lt; omega
  byte := fun j hj => by rw [div_pow_add, div_pow_add]; exact h.byte _ (by omega)
  nl := by rw [div_pow_add, show m + (l - m) = l by omega]; exact h.nl
theorem SameB.tail1 {l n L k : Nat} (h : SameB l n L k) (h0 : 0 < l) : SameB (l - 1) (n / 256) (L - 1) (k / 256) := by
  have := h.tail (m := 1) h0
  rwa [Nat.pow_one] at this

theorem SameB.run {p : Nat → Bool} (hp : p 10 = false) : ∀ {l n L k : Nat}, SameB l n L k → runP p L k = runP p l n
  | 0, n, L, k, h => by
    obtain ⟨M, rfl⟩ : ∃ M, L = M + 1 := ⟨L - 1, by have := h.lt; omega⟩
    have := h.nl
    rw [Nat.pow_zero, Nat.div_one] at this
    simp [runP, this, hp]
  | l + 1, n, L, k, h => by
    obtain ⟨M, rfl⟩ : ∃ M, L = M + 1 := ⟨L - 1, by have := h.lt; omega⟩
    have h1 := h.head (by omega)
    have h2 := SameB.run (p := p) hp (h.tail1 (by omega))
    simp only [runP, h1]
    rw [show M + 1 - 1 = M by omega, show l + 1 - 1 = l by omega] at h2
    rw [h2]

theorem SameB.part : ∀ {m l n L k : Nat}, SameB l n L k → m ≤ l → k % 256 ^ m = n % 256 ^ m
  | 0, l, n, L, k, h, hm => by rw [Nat.pow_zero, Nat.mod_one, Nat.mod_one]
  | m + 1, l, n, L, k, h, hm => by
    have h1 := h.head (by omega)
    have h2 := SameB.part (m := m) (h.tail1 (by omega)) (by omega)
    have e : ∀ y : Nat, y % 256 ^ (m + 1) = y % 256 + 256 * (y / 256 % 256 ^ m) := fun y => by
      rw [Nat.pow_succ, Nat.mul_comm, Nat.mod_mul]
    rw [e, e, h1, h2]

theorem SameB.tok {l n L k : Nat} (h : SameB l n L k) (h0 : 0 < l) : tokM L k = tokM l n := by
  have h1 := h.head h0
  have hi := h.run (p := innerB) rfl
  have hd := h.run (p := digitB) rfl
  have hL := h.lt
  have hp := h.part (runP_le digitB l n)
  unfold tokM
  rw [beq_false_iff.mpr (show L ≠ 0 by omega), beq_false_iff.mpr (show l ≠ 0 by omega), h1, hi, hd, hp]

/-- What comes of the longer text. -/
def joinR (r : LexR) (L k l : Nat) : LexR := match r with
  | .bad a b => .bad a b
  | .ok r => (G (L - (l + 1)) (k / 256 ^ (l + 1)) (lastL r + 1) 1).pre r.dropLast

theorem join_pre {t : Tok} {l x line col L k l' : Nat} : joinR ((G l x line col).pre [t]) L k l' = (joinR (G l x line col) L k l').pre [t] := by
  cases h : G l x line col with
  | bad a b => rfl
  | ok r =>
    have hr := g_ne h
    show (G _ _ (lastL (t :: r) + 1) 1).pre (t :: r).dropLast = ((G _ _ (lastL r + 1) 1).pre r.dropLast).pre [t]
    rw [lastL_cons hr, LexR.pre_pre]
    congr 1
    cases r with
    | nil => exact absurd rfl hr
    | cons a r => rfl

theorem g_join : ∀ (l n L k line col : Nat), SameB l n L k → G L k line col = joinR (G l n line col) L k l := by
  intro l
  induction l using Nat.strongRecOn with
  | ind l ih =>
    intro n L k line col h
    have hL := h.lt
    by_cases h0 : l = 0
    · subst h0
      have hn := h.nl
      rw [Nat.pow_zero, Nat.div_one] at hn
      rw [g_end, g_line (by omega) hn]
      show _ = (G (L - 1) (k / 256 ^ 1) (line + 1) 1).pre []
      rw [LexR.pre_nil, Nat.pow_one]
    have hh := h.head (by omega)
    have hst : ∀ m, m ≤ l → ∀ r, joinR r (L - m) (k / 256 ^ m) (l - m) = joinR r L k l := fun m hm r => by
      cases r with
      | bad a b => rfl
      | ok r =>
        show (G (L - m - (l - m + 1)) (k / 256 ^ m / 256 ^ (l - m + 1)) (lastL r + 1) 1).pre r.dropLast = (G (L - (l + 1)) (k / 256 ^ (l + 1)) (lastL r + 1) 1).pre r.dropLast
        rw [div_pow_add, show L - m - (l - m + 1) = L - (l + 1) by omega, show m + (l - m + 1) = l + 1 by omega]
    have hst1 : ∀ r, joinR r (L - 1) (k / 256) (l - 1) = joinR r L k l := fun r => by
      have := hst 1 (by omega) r
      rwa [Nat.pow_one] at this
    by_cases h1 : n % 256 = 32 ∨ n % 256 = 9
    · rw [g_blank (by omega) h1, g_blank (by omega) (by rw [hh]; exact h1), ih _ (by omega) _ _ _ _ _ (h.tail1 (by omega)), hst1]
    by_cases h2 : n % 256 = 10
    · rw [g_line (by omega) h2, g_line (by omega) (by rw [hh]; exact h2), ih _ (by omega) _ _ _ _ _ (h.tail1 (by omega)), hst1]
    by_cases h3 : n % 256 = 35
    · have hp : 0 < runP lineB l n := runP_pos (by omega) (by rw [h3]; rfl)
      have hr := h.run (p := lineB) rfl
      have hle := runP_le lineB l n
      rw [g_rem (by omega) h3, g_rem (by omega) (by rw [hh]; exact h3), hr, ih _ (by omega) _ _ _ _ _ (h.tail hle), hst _ hle]
    · have hb : n % 256 ≠ 32 ∧ n % 256 ≠ 9 ∧ n % 256 ≠ 10 ∧ n % 256 ≠ 35 := ⟨by omega, by omega, h2, h3⟩
      have hb2 : k % 256 ≠ 32 ∧ k % 256 ≠ 9 ∧ k % 256 ≠ 10 ∧ k % 256 ≠ 35 := by rw [hh]; exact hb
      have htt := h.tok (by omega)
      cases ht : tokM l n with
      | none => rw [g_bad hb ht, g_bad hb2 (htt.trans ht)]; rfl
      | some t =>
        obtain ⟨kind, num, tl⟩ := t
        obtain ⟨e1, e2⟩ := tokM_facts ht
        rw [g_more hb ht (by omega), g_more hb2 (htt.trans ht) (by omega), ih _ (by omega) _ _ _ _ _ (h.tail e1), hst _ e1, h.part e1, join_pre]

/-- Two texts, and a line's end between. -/
theorem sameB_join {X N Y M : Nat} (hN : N < 256 ^ X) : SameB X N (X + 1 + Y) (N + 10 * 256 ^ X + M * 256 ^ (X + 1)) where
  lt := by omega
  byte := fun j hj => by
    have e1 : (256 : Nat) ^ X = 256 ^ j * (256 * 256 ^ (X - j - 1)) := by rw [← Nat.pow_succ', ← Nat.pow_add]; congr 1; omega
    have e2 : (256 : Nat) ^ (X + 1) = 256 ^ j * (256 * 256 ^ (X - j)) := by rw [← Nat.pow_succ', ← Nat.pow_add]; congr 1; omega
    have e : N + 10 * 256 ^ X + M * 256 ^ (X + 1) = N + 256 ^ j * (256 * (10 * 256 ^ (X - j - 1) + M * 256 ^ (X - j))) := by
      rw [e1, e2, Nat.mul_add, Nat.mul_add, Nat.mul_left_comm 10, Nat.mul_left_comm M, Nat.mul_left_comm 10, Nat.mul_left_comm M, Nat.add_assoc]
    rw [e, Nat.add_mul_div_left _ _ (Nat.pow_pos (by omega)), Nat.add_mul_mod_self_left]
  nl := by
    have e2 : (256 : Nat) ^ (X + 1) = 256 ^ X * 256 := Nat.pow_succ ..
    have e : N + 10 * 256 ^ X + M * 256 ^ (X + 1) = N + 256 ^ X * (10 + 256 * M) := by
      rw [e2, Nat.mul_add, Nat.mul_comm 10, Nat.mul_left_comm M, Nat.mul_comm M, Nat.add_assoc]
    rw [e, Nat.add_mul_div_left _ _ (Nat.pow_pos (by omega)), Nat.div_eq_of_lt hN]
    omega
theorem join_rest {X N M : Nat} (hN : N < 256 ^ X) : (N + 10 * 256 ^ X + M * 256 ^ (X + 1)) / 256 ^ (X + 1) = M := by
  rw [Nat.add_mul_div_right _ _ (Nat.pow_pos (by omega)), Nat.div_eq_of_lt (by rw [Nat.pow_succ]; omega), Nat.zero_add]

theorem toks_join {X N Y M : Nat} (hN : N < 256 ^ X) : toksF (X + 1 + Y + 1) (X + 1 + Y) (N + 10 * 256 ^ X + M * 256 ^ (X + 1)) 1 1 = (match toksF (X + 1) X N 1 1 with
    | .bad a b => .bad a b
    | .ok r => ((toksF (Y + 1) Y M 1 1).down (1 + cntNL X N)).pre r.dropLast) := by
  show G _ _ 1 1 = (match G X N 1 1 with | .bad a b => LexR.bad a b | .ok r => ((G Y M 1 1).down (1 + cntNL X N)).pre r.dropLast)
  rw [g_join X N _ _ 1 1 (sameB_join hN)]
  cases h : G X N 1 1 with
  | bad a b => rfl
  | ok r =>
    show (G (X + 1 + Y - (X + 1)) _ (lastL r + 1) 1).pre r.dropLast = _
    rw [join_rest hN, g_lines _ _ _ _ _ h, show X + 1 + Y - (X + 1) = Y by omega, ← g_down, Nat.add_comm 1 (1 + cntNL X N)]

end Go.Proofs.YtjljgldgkkfckaaDoor.M
