/- What the lexers reckon, on bytes packed into numbers. -/
import Derived.Test.YtjljgldgkkfckaaDoorMSays
namespace Go.Proofs.YtjljgldgkkfckaaDoor.M
open Go

def letterB (c : Nat) : Bool := Nat.ble 97 c && Nat.ble c 122
def digitB (c : Nat) : Bool := Nat.ble 48 c && Nat.ble c 57
def innerB (c : Nat) : Bool := letterB c || digitB c || Nat.beq c 95
def lineB (c : Nat) : Bool := !Nat.beq c 10

/-- How many of the first bytes are of a kind. -/
def runP (p : Nat → Bool) : Nat → Nat → Nat
  | 0, _ => 0
  | l + 1, n => match p (n % 256) with
    | true => runP p l (n / 256) + 1
    | false => 0

theorem runP_le (p : Nat → Bool) : ∀ l n, runP p l n ≤ l
  | 0, _ => Nat.le_refl _
  | l + 1, n => by
    unfold runP
    split
    · have := runP_le p l (n / 256); omega
    · omega

/-- Behind so many of them. -/
theorem runP_step {p : Nat → Bool} : ∀ {i l n : Nat}, i < l → i + runP p (l - i) (n / 256 ^ i) = (match p (n / 256 ^ i % 256) with | true => i + 1 + runP p (l - (i + 1)) (n / 256 ^ (i + 1)) | false => i) := by
  intro i l n h
  obtain ⟨m, hm⟩ : ∃ m, l - i = m + 1 := ⟨l - i - 1, by omega⟩
  rw [hm, show l - (i + 1) = m by omega]
  rw [Nat.pow_succ, ← Nat.div_div_eq_div_mul]
  show i + (match p (n / 256 ^ i % 256) with | true => runP p m (n / 256 ^ i / 256) + 1 | false => 0) = _
  cases p (n / 256 ^ i % 256) with
  | true => show i + (runP p m (n / 256 ^ i / 256) + 1) = i + 1 + runP p m (n / 256 ^ i / 256); omega
  | false => rfl

/-- Behind all that parts tokens. -/
def blanksF : Nat → Nat → Nat → Nat → Nat → Nat × Nat × Nat × Nat
  | 0, l, n, line, col => (l, n, line, col)
  | f + 1, l, n, line, col => match Nat.beq l 0 with
    | true => (l, n, line, col)
    | false => match Nat.beq (n % 256) 32 || Nat.beq (n % 256) 9 with
      | true => blanksF f (l - 1) (n / 256) line (col + 1)
      | false => match Nat.beq (n % 256) 10 with
        | true => blanksF f (l - 1) (n / 256) (line + 1) 1
        | false => match Nat.beq (n % 256) 35 with
          | true => blanksF f (l - runP lineB l n) (n / 256 ^ runP lineB l n) line (col + runP lineB l n)
          | false => (l, n, line, col)

theorem blanks_blank {f l n line col : Nat} (h : 0 < l) (hb : n % 256 = 32 ∨ n % 256 = 9) : blanksF (f + 1) l n line col = blanksF f (l - 1) (n / 256) line (col + 1) := by
  have h1 : Nat.beq l 0 = false := beq_false_iff.mpr (by omega)
  have h2 : (Nat.beq (n % 256) 32 || Nat.beq (n % 256) 9) = true := by rw [Bool.or_eq_true, Nat.beq_eq, Nat.beq_eq]; exact hb
  simp only [blanksF, h1, h2]
theorem blanks_line {f l n line col : Nat} (h : 0 < l) (hb : n % 256 = 10) : blanksF (f + 1) l n line col = blanksF f (l - 1) (n / 256) (line + 1) 1 := by
  have h1 : Nat.beq l 0 = false := beq_false_iff.mpr (by omega)
  simp only [blanksF, h1, hb, Nat.beq_refl]
  rfl
theorem blanks_word {f l n line col : Nat} (h : 0 < l) (hb : n % 256 = 35) : blanksF (f + 1) l n line col = blanksF f (l - runP lineB l n) (n / 256 ^ runP lineB l n) line (col + runP lineB l n) := by
  have h1 : Nat.beq l 0 = false := beq_false_iff.mpr (by omega)
  simp only [blanksF, h1, hb]
  rfl
theorem blanks_end {f l n line col : Nat} (hb : l = 0 ∨ n % 256 ≠ 32 ∧ n % 256 ≠ 9 ∧ n % 256 ≠ 10 ∧ n % 256 ≠ 35) : blanksF f l n line col = (l, n, line, col) := by
  cases f with
  | zero => rfl
  | succ f =>
    rcases hb with rfl | ⟨h1, h2, h3, h4⟩
    · rfl
    · cases e : Nat.beq l 0 with
      | true => simp only [blanksF, e]
      | false =>
        have e1 := beq_false_iff.mpr h1
        have e2 := beq_false_iff.mpr h2
        have e3 := beq_false_iff.mpr h3
        have e4 := beq_false_iff.mpr h4
        simp only [blanksF, e, e1, e2, e3, e4, Bool.or_self]

theorem runP_all {p : Nat → Bool} : ∀ {len n i : Nat}, runP p len n = len → i < len → p (n / 256 ^ i % 256) = true
  | 0, _, _, _, h => by omega
  | len + 1, n, i, hr, hi => by
    simp only [runP] at hr
    cases e : p (n % 256) with
    | false => rw [e] at hr; simp at hr
    | true =>
      rw [e] at hr
      simp only at hr
      cases i with
      | zero => simpa using e
      | succ i =>
        have := runP_all (p := p) (len := len) (n := n / 256) (i := i) (by omega) (by omega)
        rw [Nat.div_div_eq_div_mul, Nat.mul_comm, ← Nat.pow_succ] at this
        exact this

/-- What digits are, behind a number. -/
def numP : Nat → Nat → Nat → Nat
  | 0, _, a => a
  | l + 1, n, a => numP l (n / 256) (a * 10 + (n % 256 - 48))

theorem numP_step {i l n a : Nat} (h : i < l) : numP (l - i) (n / 256 ^ i) a = numP (l - (i + 1)) (n / 256 ^ (i + 1)) (a * 10 + (n / 256 ^ i % 256 - 48)) := by
  obtain ⟨m, hm⟩ : ∃ m, l - i = m + 1 := ⟨l - i - 1, by omega⟩
  rw [hm, show l - (i + 1) = m by omega, Nat.pow_succ, ← Nat.div_div_eq_div_mul]
  rfl

theorem mod_mod256 {n k : Nat} (h : 0 < k) : n % 256 ^ k % 256 = n % 256 := by
  obtain ⟨j, rfl⟩ : ∃ j, k = j + 1 := ⟨k - 1, by omega⟩
  rw [Nat.pow_succ, Nat.mul_comm]
  exact Nat.mod_mul_right_mod n 256 (256 ^ j)
theorem mod_div256 {n k : Nat} : n % 256 ^ (k + 1) / 256 = n / 256 % 256 ^ k := by
  rw [Nat.pow_succ, Nat.mul_comm]
  exact Nat.mod_mul_right_div_self n 256 (256 ^ k)

theorem runP_mod {p : Nat → Bool} : ∀ {l k n : Nat}, l ≤ k → runP p l (n % 256 ^ k) = runP p l n
  | 0, _, _, _ => rfl
  | l + 1, k, n, h => by
    obtain ⟨j, rfl⟩ : ∃ j, k = j + 1 := ⟨k - 1, by omega⟩
    simp only [runP, mod_mod256 (show 0 < j + 1 by omega), mod_div256, runP_mod (show l ≤ j by omega)]

/-- So many of the first ones are of a kind: of so many, all. -/
theorem runP_self {p : Nat → Bool} : ∀ {l n : Nat}, runP p (runP p l n) n = runP p l n
  | 0, _ => rfl
  | l + 1, n => by
    cases e : p (n % 256) with
    | false => simp [runP, e]
    | true => simp [runP, e, runP_self (l := l) (n := n / 256)]

/-- Is a byte a sign? -/
def signB (c : Nat) : Bool := match c with
  | 40 | 41 | 123 | 125 | 91 | 93 | 44 | 59 | 58 | 61 | 46 | 43 | 45 | 42 | 60 | 94 | 33 | 63 => true
  | _ => false

/-- The token at the beginning: its kind, its number, how long it is. -/
def tokM (len n : Nat) : Option (Nat × Nat × Nat) :=
  match Nat.beq len 0 with
  | true => some (4, 0, 0)
  | false => match letterB (n % 256) with
    | true => match Nat.ble (runP innerB len n) 16 with
      | true => some (1, 0, runP innerB len n)
      | false => none
    | false => match digitB (n % 256) with
      | true => match Nat.ble (runP digitB len n) 9 && !(Nat.beq (n % 256) 48 && Nat.ble 2 (runP digitB len n)) with
        | true => some (2, numP (runP digitB len n) (n % 256 ^ runP digitB len n) 0, runP digitB len n)
        | false => none
      | false => match signB (n % 256) with
        | true => some (3, 0, 1)
        | false => none

theorem tok_word {len n : Nat} (h0 : 0 < len) (h1 : letterB (n % 256) = true) (h2 : runP innerB len n ≤ 16) : tokM len n = some (1, 0, runP innerB len n) := by
  simp only [tokM, beq_false_iff.mpr (show len ≠ 0 by omega), h1, Nat.ble_eq_true_of_le h2]
theorem tok_wordNo {len n : Nat} (h0 : 0 < len) (h1 : letterB (n % 256) = true) (h2 : 16 < runP innerB len n) : tokM len n = none := by
  simp only [tokM, beq_false_iff.mpr (show len ≠ 0 by omega), h1, ble_false_iff.mpr h2]
theorem tok_num {len n : Nat} (h0 : 0 < len) (h1 : letterB (n % 256) = false) (h2 : digitB (n % 256) = true) (h3 : runP digitB len n ≤ 9) (h4 : n % 256 ≠ 48 ∨ runP digitB len n ≤ 1) :
    tokM len n = some (2, numP (runP digitB len n) (n % 256 ^ runP digitB len n) 0, runP digitB len n) := by
  have h5 : (Nat.beq (n % 256) 48 && Nat.ble 2 (runP digitB len n)) = false := by
    rcases h4 with h | h
    · rw [beq_false_iff.mpr h, Bool.false_and]
    · rw [ble_false_iff.mpr (show runP digitB len n < 2 by omega), Bool.and_false]
  simp only [tokM, beq_false_iff.mpr (show len ≠ 0 by omega), h1, h2, Nat.ble_eq_true_of_le h3, h5, Bool.not_false, Bool.and_self]
theorem tok_numNo {len n : Nat} (h0 : 0 < len) (h1 : letterB (n % 256) = false) (h2 : digitB (n % 256) = true) (h3 : 9 < runP digitB len n ∨ n % 256 = 48 ∧ 1 < runP digitB len n) : tokM len n = none := by
  have h5 : (Nat.ble (runP digitB len n) 9 && !(Nat.beq (n % 256) 48 && Nat.ble 2 (runP digitB len n))) = false := by
    rcases h3 with h | ⟨h, h'⟩
    · rw [ble_false_iff.mpr h, Bool.false_and]
    · rw [h, Nat.ble_eq_true_of_le (show 2 ≤ runP digitB len n by omega), Nat.beq_refl, Bool.and_self, Bool.not_true, Bool.and_false]
  simp only [tokM, beq_false_iff.mpr (show len ≠ 0 by omega), h1, h2, h5]
theorem tok_sign {len n : Nat} (h0 : 0 < len) (h1 : letterB (n % 256) = false) (h2 : digitB (n % 256) = false) (h3 : signB (n % 256) = true) : tokM len n = some (3, 0, 1) := by
  simp only [tokM, beq_false_iff.mpr (show len ≠ 0 by omega), h1, h2, h3]
theorem tok_none {len n : Nat} (h0 : 0 < len) (h1 : letterB (n % 256) = false) (h2 : digitB (n % 256) = false) (h3 : signB (n % 256) = false) : tokM len n = none := by
  simp only [tokM, beq_false_iff.mpr (show len ≠ 0 by omega), h1, h2, h3]

theorem runP_pos {p : Nat → Bool} {l n : Nat} (h : 0 < l) (hp : p (n % 256) = true) : 0 < runP p l n := by
  cases l with
  | zero => omega
  | succ l => simp only [runP, hp]; omega

theorem blanksF_facts : ∀ {f l n line col : Nat}, n < 256 ^ l → (blanksF f l n line col).1 ≤ l ∧ (blanksF f l n line col).2.1 < 256 ^ (blanksF f l n line col).1 ∧
    (blanksF f l n line col).2.2.1 + (blanksF f l n line col).1 ≤ line + l ∧ (blanksF f l n line col).2.2.2 + (blanksF f l n line col).1 ≤ col + l
  | 0, l, n, line, col, h => ⟨Nat.le_refl _, h, Nat.le_refl _, Nat.le_refl _⟩
  | f + 1, l, n, line, col, h => by
    by_cases h0 : l = 0
    · rw [blanks_end (.inl h0)]; exact ⟨Nat.le_refl _, h, Nat.le_refl _, Nat.le_refl _⟩
    have hd : n / 256 < 256 ^ (l - 1) := by have := part_lt (k := 1) h (by omega); rwa [Nat.pow_one] at this
    by_cases h1 : n % 256 = 32 ∨ n % 256 = 9
    · rw [blanks_blank (by omega) h1]
      have := blanksF_facts (f := f) (line := line) (col := col + 1) hd
      exact ⟨by omega, this.2.1, by omega, by omega⟩
    by_cases h2 : n % 256 = 10
    · rw [blanks_line (by omega) h2]
      have := blanksF_facts (f := f) (line := line + 1) (col := 1) hd
      exact ⟨by omega, this.2.1, by omega, by omega⟩
    by_cases h3 : n % 256 = 35
    · rw [blanks_word (by omega) h3]
      have hk := runP_le lineB l n
      have := blanksF_facts (f := f) (line := line) (col := col + runP lineB l n) (part_lt h hk)
      exact ⟨by omega, this.2.1, by omega, by omega⟩
    · rw [blanks_end (.inr ⟨by omega, by omega, h2, h3⟩)]; exact ⟨Nat.le_refl _, h, Nat.le_refl _, Nat.le_refl _⟩

theorem tokM_facts {l n kind num tl : Nat} (h : tokM l n = some (kind, num, tl)) : tl ≤ l ∧ (kind = 4 ∧ l = 0 ∧ num = 0 ∧ tl = 0 ∨ kind ≠ 4 ∧ 1 ≤ tl) := by
  by_cases h0 : l = 0
  · subst h0
    simp only [tokM, Option.some.injEq, Prod.mk.injEq] at h
    obtain ⟨rfl, rfl, rfl⟩ := h
    exact ⟨by omega, .inl ⟨rfl, rfl, rfl, rfl⟩⟩
  cases h1 : letterB (n % 256) with
  | true =>
    have hp : 0 < runP innerB l n := runP_pos (by omega) (by unfold innerB; rw [h1]; rfl)
    have hle := runP_le innerB l n
    by_cases h2 : runP innerB l n ≤ 16
    · rw [tok_word (by omega) h1 h2] at h
      cases h
      exact ⟨hle, .inr ⟨by omega, hp⟩⟩
    · rw [tok_wordNo (by omega) h1 (by omega)] at h
      cases h
  | false =>
    cases h2 : digitB (n % 256) with
    | true =>
      have hp : 0 < runP digitB l n := runP_pos (by omega) h2
      have hle := runP_le digitB l n
      by_cases h3 : 9 < runP digitB l n ∨ n % 256 = 48 ∧ 1 < runP digitB l n
      · rw [tok_numNo (by omega) h1 h2 h3] at h
        cases h
      · rw [tok_num (by omega) h1 h2 (by omega) (by omega)] at h
        cases h
        exact ⟨hle, .inr ⟨by omega, hp⟩⟩
    | false =>
      cases h3 : signB (n % 256) with
      | true =>
        rw [tok_sign (by omega) h1 h2 h3] at h
        cases h
        exact ⟨by omega, .inr ⟨by omega, by omega⟩⟩
      | false =>
        rw [tok_none (by omega) h1 h2 h3] at h
        cases h

structure Tok where
  kind : Nat
  num : Nat
  line : Nat
  col : Nat
  len : Nat
  text : Nat

/-- A token's cells. -/
def Tok.row (t : Tok) : List V := [.int .i64 (.ofNat t.kind), .int .i64 (.ofNat t.num), .int .i64 (.ofNat t.line), .int .i64 (.ofNat t.col), .ps t.len t.text]

inductive LexR where
  | ok (l : List Tok)
  | bad (line col : Nat)

def LexR.pre (a : List Tok) : LexR → LexR
  | .ok l => .ok (a ++ l)
  | .bad x y => .bad x y

theorem LexR.pre_nil (r : LexR) : r.pre [] = r := by cases r <;> rfl
theorem LexR.pre_pre (a b : List Tok) (r : LexR) : (r.pre b).pre a = r.pre (a ++ b) := by cases r <;> simp [LexR.pre]

/-- All tokens of a text. -/
def toksF : Nat → Nat → Nat → Nat → Nat → LexR
  | 0, _, _, _, _ => .bad 0 0
  | f + 1, l, n, line, col => match blanksF l l n line col with
    | (l1, n1, line1, col1) => match tokM l1 n1 with
      | none => .bad line1 col1
      | some (kind, num, tl) => match Nat.beq kind 4 with
        | true => .ok [⟨4, 0, line1, col1, 0, 0⟩]
        | false => (toksF f (l1 - tl) (n1 / 256 ^ tl) line1 (col1 + tl)).pre [⟨kind, num, line1, col1, tl, n1 % 256 ^ tl⟩]

theorem toks_bad {f l x li co : Nat} (h : tokM (blanksF l l x li co).1 (blanksF l l x li co).2.1 = none) : toksF (f + 1) l x li co = .bad (blanksF l l x li co).2.2.1 (blanksF l l x li co).2.2.2 := by
  simp only [toksF, h]
theorem toks_end {f l x li co num tl : Nat} (h : tokM (blanksF l l x li co).1 (blanksF l l x li co).2.1 = some (4, num, tl)) : toksF (f + 1) l x li co = .ok [⟨4, 0, (blanksF l l x li co).2.2.1, (blanksF l l x li co).2.2.2, 0, 0⟩] := by
  simp only [toksF, h]
theorem toks_more {f l x li co kind num tl : Nat} (h : tokM (blanksF l l x li co).1 (blanksF l l x li co).2.1 = some (kind, num, tl)) (hk : kind ≠ 4) :
    toksF (f + 1) l x li co = (toksF f ((blanksF l l x li co).1 - tl) ((blanksF l l x li co).2.1 / 256 ^ tl) (blanksF l l x li co).2.2.1 ((blanksF l l x li co).2.2.2 + tl)).pre [⟨kind, num, (blanksF l l x li co).2.2.1, (blanksF l l x li co).2.2.2, tl, (blanksF l l x li co).2.1 % 256 ^ tl⟩] := by
  simp only [toksF, h, beq_false_iff.mpr hk]

/-- Is it among the first bytes of a text? -/
def hasB : Nat → Nat → Nat → Bool
  | 0, _, _ => false
  | l + 1, n, c => match Nat.beq (n % 256) c with
    | true => true
    | false => hasB l (n / 256) c

theorem hasB_step {i l n c : Nat} (h : i < l) : hasB (l - i) (n / 256 ^ i) c = (match Nat.beq (n / 256 ^ i % 256) c with | true => true | false => hasB (l - (i + 1)) (n / 256 ^ (i + 1)) c) := by
  obtain ⟨m, hm⟩ : ∃ m, l - i = m + 1 := ⟨l - i - 1, by omega⟩
  rw [hm, show l - (i + 1) = m by omega, Nat.pow_succ, ← Nat.div_div_eq_div_mul]
  rfl

/-- The piece of a text from a place on: its kind, where it ends. -/
def pieceM (len n i : Nat) : Nat × Nat := match tokM (len - i) (n / 256 ^ i) with
  | none => (0, 0)
  | some (kind, _, tl) => (kind, i + tl)

/-! ### By places of a text -/

theorem div_pow_add (n i k : Nat) : n / 256 ^ i / 256 ^ k = n / 256 ^ (i + k) := by rw [Nat.div_div_eq_div_mul, ← Nat.pow_add]
theorem div_pow_one (n i : Nat) : n / 256 ^ i / 256 = n / 256 ^ (i + 1) := by rw [Nat.div_div_eq_div_mul, ← Nat.pow_succ]

theorem blanksF_fuel : ∀ {f g l n line col : Nat}, l ≤ f → l ≤ g → blanksF f l n line col = blanksF g l n line col
  | 0, g, l, n, line, col, hf, hg => by rw [blanks_end (f := 0) (.inl (by omega)), blanks_end (f := g) (.inl (by omega))]
  | f + 1, 0, l, n, line, col, hf, hg => by rw [blanks_end (f := f + 1) (.inl (by omega)), blanks_end (f := 0) (.inl (by omega))]
  | f + 1, g + 1, l, n, line, col, hf, hg => by
    by_cases h0 : l = 0
    · rw [blanks_end (f := f + 1) (.inl h0), blanks_end (f := g + 1) (.inl h0)]
    by_cases h1 : n % 256 = 32 ∨ n % 256 = 9
    · rw [blanks_blank (by omega) h1, blanks_blank (by omega) h1, blanksF_fuel (f := f) (g := g) (by omega) (by omega)]
    by_cases h2 : n % 256 = 10
    · rw [blanks_line (by omega) h2, blanks_line (by omega) h2, blanksF_fuel (f := f) (g := g) (by omega) (by omega)]
    by_cases h3 : n % 256 = 35
    · have hp : 0 < runP lineB l n := runP_pos (by omega) (by rw [h3]; rfl)
      rw [blanks_word (by omega) h3, blanks_word (by omega) h3, blanksF_fuel (f := f) (g := g) (by omega) (by omega)]
    · rw [blanks_end (f := f + 1) (.inr ⟨by omega, by omega, h2, h3⟩), blanks_end (f := g + 1) (.inr ⟨by omega, by omega, h2, h3⟩)]

/-- From another place on, behind blanks. -/
theorem toks_of_blanks {f l x li co l' x' li' co' : Nat} (h : blanksF l l x li co = blanksF l' l' x' li' co') : toksF (f + 1) l x li co = toksF (f + 1) l' x' li' co' := by
  simp only [toksF, h]

theorem tp_blank {F len n i line from_ : Nat} (hi : i < len) (hf : from_ ≤ i) (hb : n / 256 ^ i % 256 = 32 ∨ n / 256 ^ i % 256 = 9) :
    toksF (F + 1) (len - i) (n / 256 ^ i) line (i - from_ + 1) = toksF (F + 1) (len - (i + 1)) (n / 256 ^ (i + 1)) line (i + 1 - from_ + 1) := by
  refine toks_of_blanks ?_
  obtain ⟨m, hm⟩ : ∃ m, len - i = m + 1 := ⟨len - i - 1, by omega⟩
  rw [hm, blanks_blank (by omega) hb, div_pow_one, show m + 1 - 1 = m by omega, show len - (i + 1) = m by omega, show i - from_ + 1 + 1 = i + 1 - from_ + 1 by omega]
theorem tp_line {F len n i line from_ : Nat} (hi : i < len) (hb : n / 256 ^ i % 256 = 10) :
    toksF (F + 1) (len - i) (n / 256 ^ i) line (i - from_ + 1) = toksF (F + 1) (len - (i + 1)) (n / 256 ^ (i + 1)) (line + 1) (i + 1 - (i + 1) + 1) := by
  refine toks_of_blanks ?_
  obtain ⟨m, hm⟩ : ∃ m, len - i = m + 1 := ⟨len - i - 1, by omega⟩
  rw [hm, blanks_line (by omega) hb, div_pow_one, show m + 1 - 1 = m by omega, show len - (i + 1) = m by omega, show i + 1 - (i + 1) + 1 = 1 by omega]
theorem tp_rem {F len n i line from_ : Nat} (hi : i < len) (hf : from_ ≤ i) (hb : n / 256 ^ i % 256 = 35) :
    toksF (F + 1) (len - i) (n / 256 ^ i) line (i - from_ + 1) = toksF (F + 1) (len - (i + runP lineB (len - i) (n / 256 ^ i))) (n / 256 ^ (i + runP lineB (len - i) (n / 256 ^ i))) line (i + runP lineB (len - i) (n / 256 ^ i) - from_ + 1) := by
  refine toks_of_blanks ?_
  have hp : 0 < runP lineB (len - i) (n / 256 ^ i) := runP_pos (by omega) (by rw [hb]; rfl)
  generalize hk : runP lineB (len - i) (n / 256 ^ i) = k at *
  obtain ⟨m, hm⟩ : ∃ m, len - i = m + 1 := ⟨len - i - 1, by omega⟩
  rw [hm] at hk ⊢
  rw [blanks_word (by omega) hb, hk, div_pow_add, blanksF_fuel (g := m + 1 - k) (by omega) (by omega), show len - (i + k) = m + 1 - k by omega, show i - from_ + 1 + k = i + k - from_ + 1 by omega]
theorem tp_bad {F len n i line from_ : Nat} (hb : n / 256 ^ i % 256 ≠ 32 ∧ n / 256 ^ i % 256 ≠ 9 ∧ n / 256 ^ i % 256 ≠ 10 ∧ n / 256 ^ i % 256 ≠ 35) (h : tokM (len - i) (n / 256 ^ i) = none) :
    toksF (F + 1) (len - i) (n / 256 ^ i) line (i - from_ + 1) = .bad line (i - from_ + 1) := by
  simp only [toksF, blanks_end (.inr hb), h]
theorem tp_more {F len n i line from_ kind num tl : Nat} (hf : from_ ≤ i) (hb : n / 256 ^ i % 256 ≠ 32 ∧ n / 256 ^ i % 256 ≠ 9 ∧ n / 256 ^ i % 256 ≠ 10 ∧ n / 256 ^ i % 256 ≠ 35) (h : tokM (len - i) (n / 256 ^ i) = some (kind, num, tl)) (hk : kind ≠ 4) :
    toksF (F + 1) (len - i) (n / 256 ^ i) line (i - from_ + 1) = (toksF F (len - (i + tl)) (n / 256 ^ (i + tl)) line (i + tl - from_ + 1)).pre [⟨kind, num, line, i - from_ + 1, tl, n / 256 ^ i % 256 ^ tl⟩] := by
  simp only [toksF, blanks_end (.inr hb), h, beq_false_iff.mpr hk, div_pow_add]
  rw [show len - i - tl = len - (i + tl) by omega, show i - from_ + 1 + tl = i + tl - from_ + 1 by omega]
theorem tp_end {F len n line from_ : Nat} : toksF (F + 1) (len - len) (n / 256 ^ len) line (len - from_ + 1) = .ok [⟨4, 0, line, len - from_ + 1, 0, 0⟩] := by
  rw [Nat.sub_self]
  simp only [toksF, blanks_end (.inl rfl), show tokM 0 (n / 256 ^ len) = some (4, 0, 0) from rfl]

theorem tokM_num {l n num tl : Nat} (h : tokM l n = some (2, num, tl)) : tl ≤ 9 ∧ runP digitB tl (n % 256 ^ tl) = tl ∧ num = numP tl (n % 256 ^ tl) 0 := by
  unfold tokM at h
  split at h
  · simp at h
  · split at h
    · split at h <;> simp at h
    · split at h
      · split at h
        · rename_i hc
          simp only [Option.some.injEq, Prod.mk.injEq, true_and] at h
          obtain ⟨h1, h2⟩ := h
          subst h2
          simp only [Bool.and_eq_true, Nat.ble_eq] at hc
          exact ⟨hc.1, by rw [runP_mod (Nat.le_refl _), runP_self], h1.symm⟩
        · simp at h
      · split at h <;> simp at h
theorem tokM_other {l n kind num tl : Nat} (h : tokM l n = some (kind, num, tl)) (hk : kind ≠ 2) : num = 0 := by
  unfold tokM at h
  split at h
  · simp at h; omega
  · split at h
    · split at h <;> simp at h; omega
    · split at h
      · split at h
        · simp at h; omega
        · simp at h
      · split at h <;> simp at h; omega
theorem tokM_kind {l n kind num tl : Nat} (h : tokM l n = some (kind, num, tl)) : kind ≠ 0 := by
  unfold tokM at h
  split at h
  · simp at h; omega
  · split at h
    · split at h <;> simp at h; omega
    · split at h
      · split at h
        · simp at h; omega
        · simp at h
      · split at h <;> simp at h; omega

end Go.Proofs.YtjljgldgkkfckaaDoor.M
