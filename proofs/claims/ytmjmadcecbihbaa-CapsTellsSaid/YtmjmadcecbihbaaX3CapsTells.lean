/- Texts of this claim, one behind the other. -/
import Derived.Test.YtmjmadcecbihbaaX2CapsTells
import Derived.Test.YtmjmadcecbihbaaProg
import Derived.KernelRfl
/- What the lexers reckon, on bytes packed into numbers. -/
namespace Go.Proofs.Ytmjmadcecbihbaa.M
open Go

def letterB (c : Nat) : Bool := Nat.ble 97 c && Nat.ble c 122
def digitB (c : Nat) : Bool := Nat.ble 48 c && Nat.ble c 57
def innerB (c : Nat) : Bool := letterB c || digitB c || Nat.beq c 95
def lineB (c : Nat) : Bool := !Nat.beq c 10

/-- How many of the first bytes are of a kind. -/
def runP (p : Nat → Bool) : Nat → Nat → Nat
  | 0, _ => 0
  | l + 1, n => match p (n % 256) with
    | true => runP p l (n / 256) + 1
    | false => 0

theorem runP_le (p : Nat → Bool) : ∀ l n, runP p l n ≤ l
  | 0, _ => Nat.le_refl _
  | l + 1, n => by
    unfold runP
    split
    · have := runP_le p l (n / 256); omega
    · omega

/-- Behind so many of them. -/
theorem runP_step {p : Nat → Bool} : ∀ {i l n : Nat}, i < l → i + runP p (l - i) (n / 256 ^ i) = (match p (n / 256 ^ i % 256) with | true => i + 1 + runP p (l - (i + 1)) (n / 256 ^ (i + 1)) | false => i) := by
  intro i l n h
  obtain ⟨m, hm⟩ : ∃ m, l - i = m + 1 := ⟨l - i - 1, by omega⟩
  rw [hm, show l - (i + 1) = m by omega]
  rw [Nat.pow_succ, ← Nat.div_div_eq_div_mul]
  show i + (match p (n / 256 ^ i % 256) with | true => runP p m (n / 256 ^ i / 256) + 1 | false => 0) = _
  cases p (n / 256 ^ i % 256) with
  | true => show i + (runP p m (n / 256 ^ i / 256) + 1) = i + 1 + runP p m (n / 256 ^ i / 256); omega
  | false => rfl

/-- Behind all that parts tokens. -/
def blanksF : Nat → Nat → Nat → Nat → Nat → Nat × Nat × Nat × Nat
  | 0, l, n, line, col => (l, n, line, col)
  | f + 1, l, n, line, col => match Nat.beq l 0 with
    | true => (l, n, line, col)
    | false => match Nat.beq (n % 256) 32 || Nat.beq (n % 256) 9 with
      | true => blanksF f (l - 1) (n / 256) line (col + 1)
      | false => match Nat.beq (n % 256) 10 with
        | true => blanksF f (l - 1) (n / 256) (line + 1) 1
        | false => match Nat.beq (n % 256) 35 with
          | true => blanksF f (l - runP lineB l n) (n / 256 ^ runP lineB l n) line (col + runP lineB l n)
          | false => (l, n, line, col)

theorem blanks_blank {f l n line col : Nat} (h : 0 < l) (hb : n % 256 = 32 ∨ n % 256 = 9) : blanksF (f + 1) l n line col = blanksF f (l - 1) (n / 256) line (col + 1) := by
  have h1 : Nat.beq l 0 = false := beq_false_iff.mpr (by omega)
  have h2 : (Nat.beq (n % 256) 32 || Nat.beq (n % 256) 9) = true := by rw [Bool.or_eq_true, Nat.beq_eq, Nat.beq_eq]; exact hb
  simp only [blanksF, h1, h2]
theorem blanks_line {f l n line col : Nat} (h : 0 < l) (hb : n % 256 = 10) : blanksF (f + 1) l n line col = blanksF f (l - 1) (n / 256) (line + 1) 1 := by
  have h1 : Nat.beq l 0 = false := beq_false_iff.mpr (by omega)
  simp only [blanksF, h1, hb, Nat.beq_refl]
  rfl
theorem blanks_word {f l n line col : Nat} (h : 0 < l) (hb : n % 256 = 35) : blanksF (f + 1) l n line col = blanksF f (l - runP lineB l n) (n / 256 ^ runP lineB l n) line (col + runP lineB l n) := by
  have h1 : Nat.beq l 0 = false := beq_false_iff.mpr (by omega)
  simp only [blanksF, h1, hb]
  rfl
theorem blanks_end {f l n line col : Nat} (hb : l = 0 ∨ n % 256 ≠ 32 ∧ n % 256 ≠ 9 ∧ n % 256 ≠ 10 ∧ n % 256 ≠ 35) : blanksF f l n line col = (l, n, line, col) := by
  cases f with
  | zero => rfl
  | succ f =>
    rcases hb with rfl | ⟨h1, h2, h3, h4⟩
    · rfl
    · cases e : Nat.beq l 0 with
      | true => simp only [blanksF, e]
      | false =>
        have e1 := beq_false_iff.mpr h1
        have e2 := beq_false_iff.mpr h2
        have e3 := beq_false_iff.mpr h3
        have e4 := beq_false_iff.mpr h4
        simp only [blanksF, e, e1, e2, e3, e4, Bool.or_self]

theorem runP_all {p : Nat → Bool} : ∀ {len n i : Nat}, runP p len n = len → i < len → p (n / 256 ^ i % 256) = true
  | 0, _, _, _, h => by omega
  | len + 1, n, i, hr, hi => by
    simp only [runP] at hr
    cases e : p (n % 256) with
    | false => rw [e] at hr; simp at hr
    | true =>
      rw [e] at hr
      simp only at hr
      cases i with
      | zero => simpa using e
      | succ i =>
        have := runP_all (p := p) (len := len) (n := n / 256) (i := i) (by omega) (by omega)
        rw [Nat.div_div_eq_div_mul, Nat.mul_comm, ← Nat.pow_succ] at this
        exact this

/-- What digits are, behind a number. -/
def numP : Nat → Nat → Nat → Nat
  | 0, _, a => a
  | l + 1, n, a => numP l (n / 256) (a * 10 + (n % 256 - 48))

theorem numP_step {i l n a : Nat} (h : i < l) : numP (l - i) (n / 256 ^ i) a = numP (l - (i + 1)) (n / 256 ^ (i + 1)) (a * 10 + (n / 256 ^ i % 256 - 48)) := by
  obtain ⟨m, hm⟩ : ∃ m, l - i = m + 1 := ⟨l - i - 1, by omega⟩
  rw [hm, show l - (i + 1) = m by omega, Nat.pow_succ, ← Nat.div_div_eq_div_mul]
  rfl

theorem mod_mod256 {n k : Nat} (h : 0 < k) : n % 256 ^ k % 256 = n % 256 := by
  obtain ⟨j, rfl⟩ : ∃ j, k = j + 1 := ⟨k - 1, by omega⟩
  rw [Nat.pow_succ, Nat.mul_comm]
  exact Nat.mod_mul_right_mod n 256 (256 ^ j)
theorem mod_div256 {n k : Nat} : n % 256 ^ (k + 1) / 256 = n / 256 % 256 ^ k := by
  rw [Nat.pow_succ, Nat.mul_comm]
  exact Nat.mod_mul_right_div_self n 256 (256 ^ k)

theorem runP_mod {p : Nat → Bool} : ∀ {l k n : Nat}, l ≤ k → runP p l (n % 256 ^ k) = runP p l n
  | 0, _, _, _ => rfl
  | l + 1, k, n, h => by
    obtain ⟨j, rfl⟩ : ∃ j, k = j + 1 := ⟨k - 1, by omega⟩
    simp only [runP, mod_mod256 (show 0 < j + 1 by omega), mod_div256, runP_mod (show l ≤ j by omega)]

/-- So many of the first ones are of a kind: of so many, all. -/
theorem runP_self {p : Nat → Bool} : ∀ {l n : Nat}, runP p (runP p l n) n = runP p l n
  | 0, _ => rfl
  | l + 1, n => by
    cases e : p (n % 256) with
    | false => simp [runP, e]
    | true => simp [runP, e, runP_self (l := l) (n := n / 256)]

/-- Is a byte a sign? -/
def signB (c : Nat) : Bool := match c with
  | 40 | 41 | 123 | 125 | 91 | 93 | 44 | 59 | 58 | 61 | 46 | 43 | 45 | 42 | 60 | 94 | 33 | 63 => true
  | _ => false

/-- The token at the beginning: its kind, its number, how long it is. -/
def tokM (len n : Nat) : Option (Nat × Nat × Nat) :=
  match Nat.beq len 0 with
  | true => some (4, 0, 0)
  | false => match letterB (n % 256) with
    | true => match Nat.ble (runP innerB len n) 16 with
      | true => some (1, 0, runP innerB len n)
      | false => none
    | false => match digitB (n % 256) with
      | true => match Nat.ble (runP digitB len n) 9 && !(Nat.beq (n % 256) 48 && Nat.ble 2 (runP digitB len n)) with
        | true => some (2, numP (runP digitB len n) (n % 256 ^ runP digitB len n) 0, runP digitB len n)
        | false => none
      | false => match signB (n % 256) with
        | true => some (3, 0, 1)
        | false => none

theorem tok_word {len n : Nat} (h0 : 0 < len) (h1 : letterB (n % 256) = true) (h2 : runP innerB len n ≤ 16) : tokM len n = some (1, 0, runP innerB len n) := by
  simp only [tokM, beq_false_iff.mpr (show len ≠ 0 by omega), h1, Nat.ble_eq_true_of_le h2]
theorem tok_wordNo {len n : Nat} (h0 : 0 < len) (h1 : letterB (n % 256) = true) (h2 : 16 < runP innerB len n) : tokM len n = none := by
  simp only [tokM, beq_false_iff.mpr (show len ≠ 0 by omega), h1, ble_false_iff.mpr h2]
theorem tok_num {len n : Nat} (h0 : 0 < len) (h1 : letterB (n % 256) = false) (h2 : digitB (n % 256) = true) (h3 : runP digitB len n ≤ 9) (h4 : n % 256 ≠ 48 ∨ runP digitB len n ≤ 1) :
    tokM len n = some (2, numP (runP digitB len n) (n % 256 ^ runP digitB len n) 0, runP digitB len n) := by
  have h5 : (Nat.beq (n % 256) 48 && Nat.ble 2 (runP digitB len n)) = false := by
    rcases h4 with h | h
    · rw [beq_false_iff.mpr h, Bool.false_and]
    · rw [ble_false_iff.mpr (show runP digitB len n < 2 by omega), Bool.and_false]
  simp only [tokM, beq_false_iff.mpr (show len ≠ 0 by omega), h1, h2, Nat.ble_eq_true_of_le h3, h5, Bool.not_false, Bool.and_self]
theorem tok_numNo {len n : Nat} (h0 : 0 < len) (h1 : letterB (n % 256) = false) (h2 : digitB (n % 256) = true) (h3 : 9 < runP digitB len n ∨ n % 256 = 48 ∧ 1 < runP digitB len n) : tokM len n = none := by
  have h5 : (Nat.ble (runP digitB len n) 9 && !(Nat.beq (n % 256) 48 && Nat.ble 2 (runP digitB len n))) = false := by
    rcases h3 with h | ⟨h, h'⟩
    · rw [ble_false_iff.mpr h, Bool.false_and]
    · rw [h, Nat.ble_eq_true_of_le (show 2 ≤ runP digitB len n by omega), Nat.beq_refl, Bool.and_self, Bool.not_true, Bool.and_false]
  simp only [tokM, beq_false_iff.mpr (show len ≠ 0 by omega), h1, h2, h5]
theorem tok_sign {len n : Nat} (h0 : 0 < len) (h1 : letterB (n % 256) = false) (h2 : digitB (n % 256) = false) (h3 : signB (n % 256) = true) : tokM len n = some (3, 0, 1) := by
  simp only [tokM, beq_false_iff.mpr (show len ≠ 0 by omega), h1, h2, h3]
theorem tok_none {len n : Nat} (h0 : 0 < len) (h1 : letterB (n % 256) = false) (h2 : digitB (n % 256) = false) (h3 : signB (n % 256) = false) : tokM len n = none := by
  simp only [tokM, beq_false_iff.mpr (show len ≠ 0 by omega), h1, h2, h3]

theorem runP_pos {p : Nat → Bool} {l n : Nat} (h : 0 < l) (hp : p (n % 256) = true) : 0 < runP p l n := by
  cases l with
  | zero => omega
  | succ l => simp only [runP, hp]; omega

theorem blanksF_facts : ∀ {f l n line col : Nat}, n < 256 ^ l → (blanksF f l n line col).1 ≤ l ∧ (blanksF f l n line col).2.1 < 256 ^ (blanksF f l n line col).1 ∧
    (blanksF f l n line col).2.2.1 + (blanksF f l n line col).1 ≤ line + l ∧ (blanksF f l n line col).2.2.2 + (blanksF f l n line col).1 ≤ col + l
  | 0, l, n, line, col, h => ⟨Nat.le_refl _, h, Nat.le_refl _, Nat.le_refl _⟩
  | f + 1, l, n, line, col, h => by
    by_cases h0 : l = 0
    · rw [blanks_end (.inl h0)]; exact ⟨Nat.le_refl _, h, Nat.le_refl _, Nat.le_refl _⟩
    have hd : n / 256 < 256 ^ (l - 1) := by have := part_lt (k := 1) h (by omega); rwa [Nat.pow_one] at this
    by_cases h1 : n % 256 = 32 ∨ n % 256 = 9
    · rw [blanks_blank (by omega) h1]
      have := blanksF_facts (f := f) (line := line) (col := col + 1) hd
      exact ⟨by omega, this.2.1, by omega, by omega⟩
    by_cases h2 : n % 256 = 10
    · rw [blanks_line (by omega) h2]
      have := blanksF_facts (f := f) (line := line + 1) (col := 1) hd
      exact ⟨by omega, this.2.1, by omega, by omega⟩
    by_cases h3 : n % 256 = 35
    · rw [blanks_word (by omega) h3]
      have hk := runP_le lineB l n
      have := blanksF_facts (f := f) (line := line) (col := col + runP lineB l n) (part_lt h hk)
      exact ⟨by omega, this.2.1, by omega, by omega⟩
    · rw [blanks_end (.inr ⟨by omega, by omega, h2, h3⟩)]; exact ⟨Nat.le_refl _, h, Nat.le_refl _, Nat.le_refl _⟩

theorem tokM_facts {l n kind num tl : Nat} (h : tokM l n = some (kind, num, tl)) : tl ≤ l ∧ (kind = 4 ∧ l = 0 ∧ num = 0 ∧ tl = 0 ∨ kind ≠ 4 ∧ 1 ≤ tl) := by
  by_cases h0 : l = 0
  · subst h0
    simp only [tokM, Option.some.injEq, Prod.mk.injEq] at h
    obtain ⟨rfl, rfl, rfl⟩ := h
    exact ⟨by omega, .inl ⟨rfl, rfl, rfl, rfl⟩⟩
  cases h1 : letterB (n % 256) with
  | true =>
    have hp : 0 < runP innerB l n := runP_pos (by omega) (by unfold innerB; rw [h1]; rfl)
    have hle := runP_le innerB l n
    by_cases h2 : runP innerB l n ≤ 16
    · rw [tok_word (by omega) h1 h2] at h
      cases h
      exact ⟨hle, .inr ⟨by omega, hp⟩⟩
    · rw [tok_wordNo (by omega) h1 (by omega)] at h
      cases h
  | false =>
    cases h2 : digitB (n % 256) with
    | true =>
      have hp : 0 < runP digitB l n := runP_pos (by omega) h2
      have hle := runP_le digitB l n
      by_cases h3 : 9 < runP digitB l n ∨ n % 256 = 48 ∧ 1 < runP digitB l n
      · rw [tok_numNo (by omega) h1 h2 h3] at h
        cases h
      · rw [tok_num (by omega) h1 h2 (by omega) (by omega)] at h
        cases h
        exact ⟨hle, .inr ⟨by omega, hp⟩⟩
    | false =>
      cases h3 : signB (n % 256) with
      | true =>
        rw [tok_sign (by omega) h1 h2 h3] at h
        cases h
        exact ⟨by omega, .inr ⟨by omega, by omega⟩⟩
      | false =>
        rw [tok_none (by omega) h1 h2 h3] at h
        cases h

structure Tok where
  kind : Nat
  num : Nat
  line : Nat
  col : Nat
  len : Nat
  text : Nat

/-- A token's cells. -/
def Tok.row (t : Tok) : List V := [.int .i64 (.ofNat t.kind), .int .i64 (.ofNat t.num), .int .i64 (.ofNat t.line), .int .i64 (.ofNat t.col), .ps t.len t.text]

inductive LexR where
  | ok (l : List Tok)
  | bad (line col : Nat)

def LexR.pre (a : List Tok) : LexR → LexR
  | .ok l => .ok (a ++ l)
  | .bad x y => .bad x y

theorem LexR.pre_nil (r : LexR) : r.pre [] = r := by cases r <;> rfl
theorem LexR.pre_pre (a b : List Tok) (r : LexR) : (r.pre b).pre a = r.pre (a ++ b) := by cases r <;> simp [LexR.pre]

/-- All tokens of a text. -/
def toksF : Nat → Nat → Nat → Nat → Nat → LexR
  | 0, _, _, _, _ => .bad 0 0
  | f + 1, l, n, line, col => match blanksF l l n line col with
    | (l1, n1, line1, col1) => match tokM l1 n1 with
      | none => .bad line1 col1
      | some (kind, num, tl) => match Nat.beq kind 4 with
        | true => .ok [⟨4, 0, line1, col1, 0, 0⟩]
        | false => (toksF f (l1 - tl) (n1 / 256 ^ tl) line1 (col1 + tl)).pre [⟨kind, num, line1, col1, tl, n1 % 256 ^ tl⟩]

theorem toks_bad {f l x li co : Nat} (h : tokM (blanksF l l x li co).1 (blanksF l l x li co).2.1 = none) : toksF (f + 1) l x li co = .bad (blanksF l l x li co).2.2.1 (blanksF l l x li co).2.2.2 := by
  simp only [toksF, h]
theorem toks_end {f l x li co num tl : Nat} (h : tokM (blanksF l l x li co).1 (blanksF l l x li co).2.1 = some (4, num, tl)) : toksF (f + 1) l x li co = .ok [⟨4, 0, (blanksF l l x li co).2.2.1, (blanksF l l x li co).2.2.2, 0, 0⟩] := by
  simp only [toksF, h]
theorem toks_more {f l x li co kind num tl : Nat} (h : tokM (blanksF l l x li co).1 (blanksF l l x li co).2.1 = some (kind, num, tl)) (hk : kind ≠ 4) :
    toksF (f + 1) l x li co = (toksF f ((blanksF l l x li co).1 - tl) ((blanksF l l x li co).2.1 / 256 ^ tl) (blanksF l l x li co).2.2.1 ((blanksF l l x li co).2.2.2 + tl)).pre [⟨kind, num, (blanksF l l x li co).2.2.1, (blanksF l l x li co).2.2.2, tl, (blanksF l l x li co).2.1 % 256 ^ tl⟩] := by
  simp only [toksF, h, beq_false_iff.mpr hk]

/-- Is it among the first bytes of a text? -/
def hasB : Nat → Nat → Nat → Bool
  | 0, _, _ => false
  | l + 1, n, c => match Nat.beq (n % 256) c with
    | true => true
    | false => hasB l (n / 256) c

theorem hasB_step {i l n c : Nat} (h : i < l) : hasB (l - i) (n / 256 ^ i) c = (match Nat.beq (n / 256 ^ i % 256) c with | true => true | false => hasB (l - (i + 1)) (n / 256 ^ (i + 1)) c) := by
  obtain ⟨m, hm⟩ : ∃ m, l - i = m + 1 := ⟨l - i - 1, by omega⟩
  rw [hm, show l - (i + 1) = m by omega, Nat.pow_succ, ← Nat.div_div_eq_div_mul]
  rfl

/-- The piece of a text from a place on: its kind, where it ends. -/
def pieceM (len n i : Nat) : Nat × Nat := match tokM (len - i) (n / 256 ^ i) with
  | none => (0, 0)
  | some (kind, _, tl) => (kind, i + tl)

/-! ### By places of a text -/

theorem div_pow_add (n i k : Nat) : n / 256 ^ i / 256 ^ k = n / 256 ^ (i + k) := by rw [Nat.div_div_eq_div_mul, ← Nat.pow_add]
theorem div_pow_one (n i : Nat) : n / 256 ^ i / 256 = n / 256 ^ (i + 1) := by rw [Nat.div_div_eq_div_mul, ← Nat.pow_succ]

theorem blanksF_fuel : ∀ {f g l n line col : Nat}, l ≤ f → l ≤ g → blanksF f l n line col = blanksF g l n line col
  | 0, g, l, n, line, col, hf, hg => by rw [blanks_end (f := 0) (.inl (by omega)), blanks_end (f := g) (.inl (by omega))]
  | f + 1, 0, l, n, line, col, hf, hg => by rw [blanks_end (f := f + 1) (.inl (by omega)), blanks_end (f := 0) (.inl (by omega))]
  | f + 1, g + 1, l, n, line, col, hf, hg => by
    by_cases h0 : l = 0
    · rw [blanks_end (f := f + 1) (.inl h0), blanks_end (f := g + 1) (.inl h0)]
    by_cases h1 : n % 256 = 32 ∨ n % 256 = 9
    · rw [blanks_blank (by omega) h1, blanks_blank (by omega) h1, blanksF_fuel (f := f) (g := g) (by omega) (by omega)]
    by_cases h2 : n % 256 = 10
    · rw [blanks_line (by omega) h2, blanks_line (by omega) h2, blanksF_fuel (f := f) (g := g) (by omega) (by omega)]
    by_cases h3 : n % 256 = 35
    · have hp : 0 < runP lineB l n := runP_pos (by omega) (by rw [h3]; rfl)
      rw [blanks_word (by omega) h3, blanks_word (by omega) h3, blanksF_fuel (f := f) (g := g) (by omega) (by omega)]
    · rw [blanks_end (f := f + 1) (.inr ⟨by omega, by omega, h2, h3⟩), blanks_end (f := g + 1) (.inr ⟨by omega, by omega, h2, h3⟩)]

/-- From another place on, behind blanks. -/
theorem toks_of_blanks {f l x li co l' x' li' co' : Nat} (h : blanksF l l x li co = blanksF l' l' x' li' co') : toksF (f + 1) l x li co = toksF (f + 1) l' x' li' co' := by
  simp only [toksF, h]

theorem tp_blank {F len n i line from_ : Nat} (hi : i < len) (hf : from_ ≤ i) (hb : n / 256 ^ i % 256 = 32 ∨ n / 256 ^ i % 256 = 9) :
    toksF (F + 1) (len - i) (n / 256 ^ i) line (i - from_ + 1) = toksF (F + 1) (len - (i + 1)) (n / 256 ^ (i + 1)) line (i + 1 - from_ + 1) := by
  refine toks_of_blanks ?_
  obtain ⟨m, hm⟩ : ∃ m, len - i = m + 1 := ⟨len - i - 1, by omega⟩
  rw [hm, blanks_blank (by omega) hb, div_pow_one, show m + 1 - 1 = m by omega, show len - (i + 1) = m by omega, show i - from_ + 1 + 1 = i + 1 - from_ + 1 by omega]
theorem tp_line {F len n i line from_ : Nat} (hi : i < len) (hb : n / 256 ^ i % 256 = 10) :
    toksF (F + 1) (len - i) (n / 256 ^ i) line (i - from_ + 1) = toksF (F + 1) (len - (i + 1)) (n / 256 ^ (i + 1)) (line + 1) (i + 1 - (i + 1) + 1) := by
  refine toks_of_blanks ?_
  obtain ⟨m, hm⟩ : ∃ m, len - i = m + 1 := ⟨len - i - 1, by omega⟩
  rw [hm, blanks_line (by omega) hb, div_pow_one, show m + 1 - 1 = m by omega, show len - (i + 1) = m by omega, show i + 1 - (i + 1) + 1 = 1 by omega]
theorem tp_rem {F len n i line from_ : Nat} (hi : i < len) (hf : from_ ≤ i) (hb : n / 256 ^ i % 256 = 35) :
    toksF (F + 1) (len - i) (n / 256 ^ i) line (i - from_ + 1) = toksF (F + 1) (len - (i + runP lineB (len - i) (n / 256 ^ i))) (n / 256 ^ (i + runP lineB (len - i) (n / 256 ^ i))) line (i + runP lineB (len - i) (n / 256 ^ i) - from_ + 1) := by
  refine toks_of_blanks ?_
  have hp : 0 < runP lineB (len - i) (n / 256 ^ i) := runP_pos (by omega) (by rw [hb]; rfl)
  generalize hk : runP lineB (len - i) (n / 256 ^ i) = k at *
  obtain ⟨m, hm⟩ : ∃ m, len - i = m + 1 := ⟨len - i - 1, by omega⟩
  rw [hm] at hk ⊢
  rw [blanks_word (by omega) hb, hk, div_pow_add, blanksF_fuel (g := m + 1 - k) (by omega) (by omega), show len - (i + k) = m + 1 - k by omega, show i - from_ + 1 + k = i + k - from_ + 1 by omega]
theorem tp_bad {F len n i line from_ : Nat} (hb : n / 256 ^ i % 256 ≠ 32 ∧ n / 256 ^ i % 256 ≠ 9 ∧ n / 256 ^ i % 256 ≠ 10 ∧ n / 256 ^ i % 256 ≠ 35) (h : tokM (len - i) (n / 256 ^ i) = none) :
    toksF (F + 1) (len - i) (n / 256 ^ i) line (i - from_ + 1) = .bad line (i - from_ + 1) := by
  simp only [toksF, blanks_end (.inr hb), h]
theorem tp_more {F len n i line from_ kind num tl : Nat} (hf : from_ ≤ i) (hb : n / 256 ^ i % 256 ≠ 32 ∧ n / 256 ^ i % 256 ≠ 9 ∧ n / 256 ^ i % 256 ≠ 10 ∧ n / 256 ^ i % 256 ≠ 35) (h : tokM (len - i) (n / 256 ^ i) = some (kind, num, tl)) (hk : kind ≠ 4) :
    toksF (F + 1) (len - i) (n / 256 ^ i) line (i - from_ + 1) = (toksF F (len - (i + tl)) (n / 256 ^ (i + tl)) line (i + tl - from_ + 1)).pre [⟨kind, num, line, i - from_ + 1, tl, n / 256 ^ i % 256 ^ tl⟩] := by
  simp only [toksF, blanks_end (.inr hb), h, beq_false_iff.mpr hk, div_pow_add]
  rw [show len - i - tl = len - (i + tl) by omega, show i - from_ + 1 + tl = i + tl - from_ + 1 by omega]
theorem tp_end {F len n line from_ : Nat} : toksF (F + 1) (len - len) (n / 256 ^ len) line (len - from_ + 1) = .ok [⟨4, 0, line, len - from_ + 1, 0, 0⟩] := by
  rw [Nat.sub_self]
  simp only [toksF, blanks_end (.inl rfl), show tokM 0 (n / 256 ^ len) = some (4, 0, 0) from rfl]

theorem tokM_num {l n num tl : Nat} (h : tokM l n = some (2, num, tl)) : tl ≤ 9 ∧ runP digitB tl (n % 256 ^ tl) = tl ∧ num = numP tl (n % 256 ^ tl) 0 := by
  unfold tokM at h
  split at h
  · simp at h
  · split at h
    · split at h <;> simp at h
    · split at h
      · split at h
        · rename_i hc
          simp only [Option.some.injEq, Prod.mk.injEq, true_and] at h
          obtain ⟨h1, h2⟩ := h
          subst h2
          simp only [Bool.and_eq_true, Nat.ble_eq] at hc
          exact ⟨hc.1, by rw [runP_mod (Nat.le_refl _), runP_self], h1.symm⟩
        · simp at h
      · split at h <;> simp at h
theorem tokM_other {l n kind num tl : Nat} (h : tokM l n = some (kind, num, tl)) (hk : kind ≠ 2) : num = 0 := by
  unfold tokM at h
  split at h
  · simp at h; omega
  · split at h
    · split at h <;> simp at h; omega
    · split at h
      · split at h
        · simp at h; omega
        · simp at h
      · split at h <;> simp at h; omega
theorem tokM_kind {l n kind num tl : Nat} (h : tokM l n = some (kind, num, tl)) : kind ≠ 0 := by
  unfold tokM at h
  split at h
  · simp at h; omega
  · split at h
    · split at h <;> simp at h; omega
    · split at h
      · split at h
        · simp at h; omega
        · simp at h
      · split at h <;> simp at h; omega

end Go.Proofs.Ytmjmadcecbihbaa.M

/- The plans of this program's drawn regions (printed by plan.lean). -/
namespace Go.Proofs.Ytmjmadcecbihbaa.M
open Go
def pl3 (r : Nat) : List Plan := match r with
  | 1 => [.s (.q 0), .s (.q 1), .s (.q 5), .s (.l 2 [0, 2, 3, 4, 5]), .s (.l 3 [3, 4, 5]), .s (.q 4)]
  | 4 => [.s (.q 0), .s (.q 1), .s (.q 5), .s (.l 2 [0, 2, 3, 4, 5]), .s (.l 3 [3, 4, 5]), .s (.q 4)]
  | 7 => [.s (.q 0), .s (.q 2), .s (.l 1 [1, 2, 3, 4, 5, 6, 7, 8, 9, 10, 11, 12, 13, 14, 15]), .s (.l 3 [3, 4, 5, 6, 7, 8, 9, 10, 11, 12, 13, 14, 15]), .s (.q 4), .s (.q 5), .s (.q 6), .s (.q 7), .s (.q 8), .s (.q 10), .s (.q 11), .s (.q 12), .s (.l 9 [9, 10, 11, 12, 13, 14, 15]), .s (.l 13 [13, 14, 15]), .s (.q 14), .s (.q 15)]
  | _ => []
def plF (f : FuncId) : Nat → List Plan := match f with
  | 3 => pl3
  | _ => fun _ => []

def glob : Gl := ⟨plF, fun _ => [], false⟩
/-- The same, with rows as lists. -/
def globL : Gl := ⟨plF, fun _ => [], true⟩
end Go.Proofs.Ytmjmadcecbihbaa.M

/- All plans may be followed. -/
namespace Go.Proofs.Ytmjmadcecbihbaa.M
open Go

/-- Functions one behind the other. -/
def okR (P : Program) (G : Gl) (a n : Nat) : Bool := (List.range n).all fun i => okF P G (Nat.add a i)
theorem okR_ok {P : Program} {G : Gl} {a n : Nat} (h : okR P G a n = true) (f : Nat) (h1 : a ≤ f) (h2 : f < a + n) : okF P G f = true := by
  unfold okR at h
  rw [List.all_eq_true] at h
  have := h (f - a) (List.mem_range.mpr (by omega))
  rwa [show Nat.add a (f - a) = f by show a + (f - a) = f; omega] at this

theorem ok0 : okR Try.prog glob 0 12 = true := by kernel_rfl
theorem ok1 : okR Try.prog glob 12 12 = true := by kernel_rfl
theorem ok2 : okR Try.prog glob 24 9 = true := by kernel_rfl

theorem funcs_size : Try.prog.funcs.size = 33 := by kernel_rfl

theorem glob_ok : GOK' Try.prog glob := by
  intro f fn c hf hb
  have hlt := getElem?_lt hf
  rw [funcs_size] at hlt
  have key : okF Try.prog glob f = true := by
    rcases Nat.lt_or_ge f 12 with g0 | g0
    · exact okR_ok ok0 f (by omega) (by omega)
    rcases Nat.lt_or_ge f 24 with g1 | g1
    · exact okR_ok ok1 f (by omega) (by omega)
    exact okR_ok ok2 f (by omega) (by omega)
  unfold okF at key
  rw [hf] at key
  simp only [hb] at key
  exact key

theorem globL_ok : GOK' Try.prog globL := glob_ok

end Go.Proofs.Ytmjmadcecbihbaa.M

/- Helps: arrays made afresh, conditions that are asked for, rounds one by one, closed runs that say true, numbers as rows. -/
namespace Go.Proofs.Ytmjmadcecbihbaa.M
open Go
set_option linter.unusedSimpArgs false
set_option linter.unusedVariables false
variable {ρ : Nat → Value}

theorem follows : Try.prog.follows .mixedOrders = true := by kernel_rfl
theorem arg1 {q : V} (h : q.flat = true) : ∀ x ∈ [q], Arg2 [] x x := fun x hx => by simp at hx; subst hx; exact .flat _ h
theorem arg2 {q r : V} (h : q.flat = true) (h2 : r.flat = true) : ∀ x ∈ [q, r], Arg2 [] x x := fun x hx => by simp at hx; rcases hx with rfl | rfl <;> (refine .flat _ ?_; assumption)

/-- An array that was made afresh, as what it holds. -/
theorem frz_arr {O : Objs} {k len s : Nat} {full : Bool} {ob : Ob} {rows : List (List V)} (ho : O k = some ob) (hs : ob.s = s) (hl : rows.length = len) (hr : (List.range len).map ob.row = rows.map some)
    (hf : (rows.all fun row => row.all fun q => q.flat && q.one) = true) : Frz (fun _ => True) O (.sl k 0 len full) (.ro s rows) := by
  subst hs hl
  have hrow : ∀ r row', rows[r]? = some row' → ob.row r = some row' := fun r row' h => by
    have hlt : r < rows.length := (List.getElem?_eq_some_iff.mp h).1
    have e := congrArg (fun l => l[r]?) hr
    simp only [List.getElem?_map, List.getElem?_range hlt, h, Option.map_some, Option.some.injEq] at e
    exact e
  refine .cell (.sl k 0 rows.length full ob rows (fun r => (ob.row r).getD []) trivial ho rfl (fun r row' h => ⟨?_, ?_⟩) fun r row' h c q q' h1 h2 => ?_)
  · rw [Nat.zero_add, hrow r row' h]; rfl
  · show row'.length = ((ob.row r).getD []).length
    rw [hrow r row' h]; rfl
  · have h1 : ((ob.row r).getD [])[c]? = some q := h1
    rw [hrow r row' h] at h1
    have h1 : row'[c]? = some q := h1
    rw [h1] at h2
    cases h2
    have := List.all_eq_true.mp (List.all_eq_true.mp hf row' (List.mem_of_getElem? h)) q (List.mem_of_getElem? h1)
    rw [Bool.and_eq_true] at this
    exact .same q this.2 this.1

noncomputable def lexX (r : LexR) (f : List Tok → Ans) (g : Nat → Nat → Ans) : Ans := LexR.rec (motive := fun _ => AnsT) f g r
theorem lexX_inv {r : LexR} {f : List Tok → Ans} {g : Nat → Nat → Ans} (h : lexX r f g = .ok) : (∃ l, r = .ok l ∧ f l = .ok) ∨ ∃ a b, r = .bad a b ∧ g a b = .ok := by
  cases r with
  | ok l => exact .inl ⟨l, rfl, h⟩
  | bad a b => exact .inr ⟨a, b, rfl, h⟩
theorem lex_split {r : LexR} {f : List Tok → Ans} {g : Nat → Nat → Ans} (h1 : ∀ l, r = .ok l → f l = .ok) (h2 : ∀ a b, r = .bad a b → g a b = .ok) : LexR.rec (motive := fun _ => AnsT) f g r = .ok := by
  cases r with
  | ok l => exact h1 l rfl
  | bad a b => exact h2 a b rfl
theorem lex_ok {r : LexR} {l : List Tok} {f : List Tok → Ans} {g : Nat → Nat → Ans} (h : r = .ok l) (hf : f l = .ok) : LexR.rec (motive := fun _ => AnsT) f g r = .ok := by subst h; exact hf
theorem lex_bad {r : LexR} {a b : Nat} {f : List Tok → Ans} {g : Nat → Nat → Ans} (h : r = .bad a b) (hf : g a b = .ok) : LexR.rec (motive := fun _ => AnsT) f g r = .ok := by subst h; exact hf

/-- What is asked for. -/
noncomputable def askP (p : Prop) (k : Ans) : Ans := open Classical in if p then k else .err 9
theorem askP_ok {p : Prop} {k : Ans} (h : p) (hk : k = .ok) : askP p k = .ok := by unfold askP; rw [if_pos h]; exact hk
theorem askP_inv {p : Prop} {k : Ans} (h : askP p k = .ok) : p ∧ k = .ok := by
  unfold askP at h
  split at h
  · exact ⟨by assumption, h⟩
  · cases h

theorem unroll {c : Env → K3 → Tm → Hp → Nat → Ans} {E : Env} {R : Nat} {tm : Tm} {hp : Hp} {nx : Nat} (hR : 0 < R) (h : c E (roundsK c E (R - 1)) tm hp nx = .ok) : roundsK c E R tm hp nx = .ok := by
  obtain ⟨k, rfl⟩ : ∃ k, R = k + 1 := ⟨R - 1, by omega⟩
  exact h

/-- A run without unknowns that says true. -/
theorem says_true {P : Program} (hm : P.follows .mixedOrders = true) {G : Gl} (hG : GOK' P G) (n : Nat) {f : FuncId} (h : isOk (runF P G n f [] [] hp0 0 sayTrue sayNo) = true) : Says ρ P f [] (.bool true) := by
  refine says_frame (fun q hq => by cases hq) ?_
  have := run_sound (ρ := ρ) hm hG n (isOk_ok h)
  rw [absO_hp0, inL_nil] at this
  refine this.mono fun o O m hr => ?_
  cases o with
  | ret v =>
    obtain ⟨hp, _, h⟩ := hr
    obtain ⟨t, h1, h⟩ := V.onBool_inv h
    rcases boolK_inv h with ⟨rfl, _⟩ | ⟨_, h⟩
    · rw [h1]
      exact ⟨_, rfl, .flat _ rfl⟩
    · exact Ans.no h
  | panic v =>
    obtain ⟨hp, _, h⟩ := hr
    exact Ans.no h

def pickRow (z : Int) : List V := [.int .i64 z]

def pickOf (row : List V) : Int := match row with
  | [.int .i64 z] => z
  | _ => 0
theorem picks_of (picks : List Int) : picks.map pickRow = ((picks.map pickRow).map pickOf).map pickRow := by
  rw [List.map_map, List.map_map]
  rfl

end Go.Proofs.Ytmjmadcecbihbaa.M

/- columbarykeep: a number within others. -/
namespace Go.Proofs.Ytmjmadcecbihbaa.M
open Go
set_option linter.unusedSimpArgs false
set_option linter.unusedVariables false
variable {ρ : Nat → Value}

section
open Go.RowKit
attribute [local irreducible] QC QS QFin in
theorem within_says (n : Int) (b : Nat) (hb : 1 ≤ b) : Says ρ Try.prog 9 [.int .i64 n, .int .i64 (.ofNat b)] (.int .i64 (withinM n (.ofNat b))) := by
  intro objs next forb
  refine qcalls_body (fun _ => false) Try.func9 rfl ?_
  repeat' first
    | refine q_seq ?_
    | refine q_region ?_
    | refine qs_quiet rfl (qq_move (.inl rfl)) (fun t ht => by cases ht; exact of_decide_eq_true rfl) ?_
    | refine qs_quiet rfl (qq_move (.inr rfl)) (fun t ht => by cases ht; exact of_decide_eq_true rfl) ?_
    | refine qs_quiet rfl (qq_binI rfl rfl rfl rfl) (fun t ht => by cases ht; exact of_decide_eq_true rfl) ?_
    | refine qs_quiet rfl (qq_rem rfl rfl rfl (by have : Int.ofNat b = (b : Int) := rfl; omega)) (fun t ht => by cases ht; exact of_decide_eq_true rfl) ?_
    | refine qs_done ?_
    | refine q_cond2 rfl (fun hc => ?_) (fun hc => ?_)
    | refine q_skip ?_
    | refine q_ret ?_
    | refine fin_tmp rfl rfl rfl ?_
  · exact absurd (of_decide_eq_true hc) (by have : Int.ofNat b = (b : Int) := rfl; omega)
  all_goals refine ⟨?_, rfl, rfl⟩
  · rename_i h1
    have h2 : n.tmod (Int.ofNat b) < 0 := of_decide_eq_true hc
    unfold withinM
    rw [if_pos h2]
    rfl
  · have h2 : ¬ n.tmod (Int.ofNat b) < 0 := of_decide_eq_false hc
    unfold withinM
    rw [if_neg h2]
    rfl
end

attribute [local irreducible] forceN forceZ forceB okIf roundsK valK rowAt
set_option maxRecDepth 100000

def withinN (z : Int) (b : Nat) : Nat := (withinM z (.ofNat b)).toNat
theorem withinN_lt (z : Int) {b : Nat} (hb : 0 < b) (hb2 : b < 1000) : withinN z b < b := by
  obtain ⟨k, h1, h2⟩ := withinM_lt z b hb hb2
  rw [withinN, h2]; exact h1
theorem withinN_eq (z : Int) {b : Nat} (hb : 0 < b) (hb2 : b < 1000) : withinM z (.ofNat b) = .ofNat (withinN z b) := by
  obtain ⟨k, h1, h2⟩ := withinM_lt z b hb hb2
  rw [withinN, h2]; rfl

noncomputable def ovWithin : OvT := ovF fun
  | [.int .i64 z, .int .i64 (.ofNat b)] => some (Nat.ble 1 b && Nat.ble b 999, .int .i64 (.ofNat (withinN z b)))
  | _ => none
theorem ovWithin_ok : OvOK ρ Try.prog 9 ovWithin := ov_says fun args v h => by
  split at h
  · rename_i z b
    injection h with h
    injection h with g1 g2
    subst g2
    simp only [Bool.and_eq_true, Nat.ble_eq] at g1
    rw [← withinN_eq z (by omega) (by omega)]
    exact within_says z b g1.1
  · cases h

end Go.Proofs.Ytmjmadcecbihbaa.M

/- Comparisons of whole numbers whose signs are not known: natZ is a stop word here. -/
namespace Go.Proofs.Ytmjmadcecbihbaa.M
open Go
set_option linter.unusedSimpArgs false
set_option linter.unusedVariables false

theorem must_ok {y : Ans} (h : y = .ok) : must true y = .ok := h
theorem natZ_nat {a b : Nat} {f : Nat → Nat → Ans} {g : Ans} (h : f a b = .ok) : natZ (.ofNat a) (.ofNat b) f g = .ok := h
theorem forceN_mod {a b : Nat} {k : Nat → Ans} (h : k (a % b) = .ok) : forceN (Nat.mod a b) k = .ok := forceN_ok h
theorem forceN_div {a b : Nat} {k : Nat → Ans} (h : k (a / b) = .ok) : forceN (Nat.div a b) k = .ok := forceN_ok h
theorem forceB_as {b : Bool} (c : Bool) {k : Bool → Ans} (e : b = c) (h : k c = .ok) : forceB b k = .ok := by rw [forceB_eq, e]; exact h
/-- An answer that is not looked into. -/
noncomputable def ovRaw (F : List V → Option V) : OvT := fun args _ hp nx kr _ => match F args with
  | some v => kr v hp nx
  | none => .err 1
theorem ov_raw {ρ : Nat → Value} {P : Program} {f : FuncId} {F : List V → Option V} (h : ∀ args v, F args = some v → Says ρ P f args v) : OvOK ρ P f (ovRaw F) := by
  intro args forb hp nx kr kp hk
  unfold ovRaw at hk
  split at hk
  · rename_i v hv
    refine (h args v hv (absO hp) nx (inL forb)).mono ?_
    rintro o O m ⟨e1, e2, e3⟩
    subst e1 e2 e3
    exact ⟨hp, rfl, hk⟩
  · exact Ans.no hk
theorem boolK_dec {p : Prop} [Decidable p] {b : Bool} {x y : Ans} (hb : b = decide p) (h1 : p → x = .ok) (h2 : ¬ p → y = .ok) : boolK b x y = .ok := by
  subst hb
  by_cases h : p
  · rw [decide_eq_true h]; exact h1 h
  · rw [decide_eq_false h]; exact h2 h
theorem genI_bool {op : BinOp} {kd : IntKind} {m n : Int} {K : V → Ans} {b : Bool} (hb : binI op kd m n = some (.bool b)) (h : K (.bool b) = .ok) : genI op kd m n K = .ok := by
  unfold genI
  rw [hb]
  show giveV (.bool b) K = .ok
  show forceB b (fun b => K (.bool b)) = .ok
  rw [forceB_eq]
  exact h

theorem natZ_eql {m n : Int} {kd kd' : IntKind} {K : V → Ans} (h1 : m = n → K (.bool true) = .ok) (h2 : ¬ (m = n) → K (.bool false) = .ok) : natZ m n (fun a b => (natI .eql).run kd a b K) (genI .eql kd' m n K) = .ok := by
  have hg : genI .eql kd' m n K = .ok := by
    by_cases h : m = n
    · exact genI_bool (b := true) (by simp [binI]; exact h) (h1 h)
    · exact genI_bool (b := false) (by simp [binI]; exact h) (h2 h)
  cases m with
  | negSucc a => exact hg
  | ofNat a =>
    cases n with
    | negSucc b => exact hg
    | ofNat b =>
      show boolK (Nat.beq a b) (K (.bool true)) (K (.bool false)) = .ok
      cases hb : Nat.beq a b with
      | true => exact h1 (by rw [Nat.eq_of_beq_eq_true hb])
      | false => exact h2 (fun e => beq_false' hb (Int.ofNat.inj e))
theorem natZ_eql_t {m n : Int} {kd kd' : IntKind} {K : V → Ans} (h : m = n) (hk : K (.bool true) = .ok) : natZ m n (fun a b => (natI .eql).run kd a b K) (genI .eql kd' m n K) = .ok := natZ_eql (fun _ => hk) fun g => (g h).elim
theorem natZ_eql_f {m n : Int} {kd kd' : IntKind} {K : V → Ans} (h : ¬ (m = n)) (hk : K (.bool false) = .ok) : natZ m n (fun a b => (natI .eql).run kd a b K) (genI .eql kd' m n K) = .ok := natZ_eql (fun g => (h g).elim) fun _ => hk

theorem natZ_neq {m n : Int} {kd kd' : IntKind} {K : V → Ans} (h1 : m ≠ n → K (.bool true) = .ok) (h2 : ¬ (m ≠ n) → K (.bool false) = .ok) : natZ m n (fun a b => (natI .neq).run kd a b K) (genI .neq kd' m n K) = .ok := by
  have hg : genI .neq kd' m n K = .ok := by
    by_cases h : m ≠ n
    · exact genI_bool (b := true) (by simp [binI]; exact h) (h1 h)
    · exact genI_bool (b := false) (by simp [binI]; simpa using h) (h2 h)
  cases m with
  | negSucc a => exact hg
  | ofNat a =>
    cases n with
    | negSucc b => exact hg
    | ofNat b =>
      show boolK (Nat.beq a b) (K (.bool false)) (K (.bool true)) = .ok
      cases hb : Nat.beq a b with
      | true => exact h2 (fun e => e (by rw [Nat.eq_of_beq_eq_true hb]))
      | false => exact h1 (fun e => beq_false' hb (Int.ofNat.inj e))
theorem natZ_neq_t {m n : Int} {kd kd' : IntKind} {K : V → Ans} (h : m ≠ n) (hk : K (.bool true) = .ok) : natZ m n (fun a b => (natI .neq).run kd a b K) (genI .neq kd' m n K) = .ok := natZ_neq (fun _ => hk) fun g => (g h).elim
theorem natZ_neq_f {m n : Int} {kd kd' : IntKind} {K : V → Ans} (h : ¬ (m ≠ n)) (hk : K (.bool false) = .ok) : natZ m n (fun a b => (natI .neq).run kd a b K) (genI .neq kd' m n K) = .ok := natZ_neq (fun g => (h g).elim) fun _ => hk

theorem natZ_lss {m n : Int} {kd kd' : IntKind} {K : V → Ans} (h1 : m < n → K (.bool true) = .ok) (h2 : ¬ (m < n) → K (.bool false) = .ok) : natZ m n (fun a b => (natI .lss).run kd a b K) (genI .lss kd' m n K) = .ok := by
  have hg : genI .lss kd' m n K = .ok := by
    by_cases h : m < n
    · exact genI_bool (b := true) (by simp [binI]; exact h) (h1 h)
    · exact genI_bool (b := false) (by simp [binI]; omega) (h2 h)
  cases m with
  | negSucc a => exact hg
  | ofNat a =>
    cases n with
    | negSucc b => exact hg
    | ofNat b =>
      show boolK (Nat.ble (Nat.succ a) b) (K (.bool true)) (K (.bool false)) = .ok
      cases hb : Nat.ble (Nat.succ a) b with
      | true => exact h1 (by have := Nat.le_of_ble_eq_true hb; show (((a : Nat) : Int) < ((b : Nat) : Int)); omega)
      | false => exact h2 (by have := ble_false hb; show ¬ (((a : Nat) : Int) < ((b : Nat) : Int)); omega)
theorem natZ_lss_t {m n : Int} {kd kd' : IntKind} {K : V → Ans} (h : m < n) (hk : K (.bool true) = .ok) : natZ m n (fun a b => (natI .lss).run kd a b K) (genI .lss kd' m n K) = .ok := natZ_lss (fun _ => hk) fun g => (g h).elim
theorem natZ_lss_f {m n : Int} {kd kd' : IntKind} {K : V → Ans} (h : ¬ (m < n)) (hk : K (.bool false) = .ok) : natZ m n (fun a b => (natI .lss).run kd a b K) (genI .lss kd' m n K) = .ok := natZ_lss (fun g => (h g).elim) fun _ => hk

theorem natZ_leq {m n : Int} {kd kd' : IntKind} {K : V → Ans} (h1 : m ≤ n → K (.bool true) = .ok) (h2 : ¬ (m ≤ n) → K (.bool false) = .ok) : natZ m n (fun a b => (natI .leq).run kd a b K) (genI .leq kd' m n K) = .ok := by
  have hg : genI .leq kd' m n K = .ok := by
    by_cases h : m ≤ n
    · exact genI_bool (b := true) (by simp [binI]; exact h) (h1 h)
    · exact genI_bool (b := false) (by simp [binI]; omega) (h2 h)
  cases m with
  | negSucc a => exact hg
  | ofNat a =>
    cases n with
    | negSucc b => exact hg
    | ofNat b =>
      show boolK (Nat.ble a b) (K (.bool true)) (K (.bool false)) = .ok
      cases hb : Nat.ble a b with
      | true => exact h1 (by have := Nat.le_of_ble_eq_true hb; show (((a : Nat) : Int) ≤ ((b : Nat) : Int)); omega)
      | false => exact h2 (by have := ble_false hb; show ¬ (((a : Nat) : Int) ≤ ((b : Nat) : Int)); omega)
theorem natZ_leq_t {m n : Int} {kd kd' : IntKind} {K : V → Ans} (h : m ≤ n) (hk : K (.bool true) = .ok) : natZ m n (fun a b => (natI .leq).run kd a b K) (genI .leq kd' m n K) = .ok := natZ_leq (fun _ => hk) fun g => (g h).elim
theorem natZ_leq_f {m n : Int} {kd kd' : IntKind} {K : V → Ans} (h : ¬ (m ≤ n)) (hk : K (.bool false) = .ok) : natZ m n (fun a b => (natI .leq).run kd a b K) (genI .leq kd' m n K) = .ok := natZ_leq (fun g => (h g).elim) fun _ => hk

theorem natZ_gtr {m n : Int} {kd kd' : IntKind} {K : V → Ans} (h1 : n < m → K (.bool true) = .ok) (h2 : ¬ (n < m) → K (.bool false) = .ok) : natZ m n (fun a b => (natI .gtr).run kd a b K) (genI .gtr kd' m n K) = .ok := by
  have hg : genI .gtr kd' m n K = .ok := by
    by_cases h : n < m
    · exact genI_bool (b := true) (by simp [binI]; exact h) (h1 h)
    · exact genI_bool (b := false) (by simp [binI]; omega) (h2 h)
  cases m with
  | negSucc a => exact hg
  | ofNat a =>
    cases n with
    | negSucc b => exact hg
    | ofNat b =>
      show boolK (Nat.ble (Nat.succ b) a) (K (.bool true)) (K (.bool false)) = .ok
      cases hb : Nat.ble (Nat.succ b) a with
      | true => exact h1 (by have := Nat.le_of_ble_eq_true hb; show (((b : Nat) : Int) < ((a : Nat) : Int)); omega)
      | false => exact h2 (by have := ble_false hb; show ¬ (((b : Nat) : Int) < ((a : Nat) : Int)); omega)
theorem natZ_gtr_t {m n : Int} {kd kd' : IntKind} {K : V → Ans} (h : n < m) (hk : K (.bool true) = .ok) : natZ m n (fun a b => (natI .gtr).run kd a b K) (genI .gtr kd' m n K) = .ok := natZ_gtr (fun _ => hk) fun g => (g h).elim
theorem natZ_gtr_f {m n : Int} {kd kd' : IntKind} {K : V → Ans} (h : ¬ (n < m)) (hk : K (.bool false) = .ok) : natZ m n (fun a b => (natI .gtr).run kd a b K) (genI .gtr kd' m n K) = .ok := natZ_gtr (fun g => (h g).elim) fun _ => hk

theorem natZ_geq {m n : Int} {kd kd' : IntKind} {K : V → Ans} (h1 : n ≤ m → K (.bool true) = .ok) (h2 : ¬ (n ≤ m) → K (.bool false) = .ok) : natZ m n (fun a b => (natI .geq).run kd a b K) (genI .geq kd' m n K) = .ok := by
  have hg : genI .geq kd' m n K = .ok := by
    by_cases h : n ≤ m
    · exact genI_bool (b := true) (by simp [binI]; exact h) (h1 h)
    · exact genI_bool (b := false) (by simp [binI]; omega) (h2 h)
  cases m with
  | negSucc a => exact hg
  | ofNat a =>
    cases n with
    | negSucc b => exact hg
    | ofNat b =>
      show boolK (Nat.ble b a) (K (.bool true)) (K (.bool false)) = .ok
      cases hb : Nat.ble b a with
      | true => exact h1 (by have := Nat.le_of_ble_eq_true hb; show (((b : Nat) : Int) ≤ ((a : Nat) : Int)); omega)
      | false => exact h2 (by have := ble_false hb; show ¬ (((b : Nat) : Int) ≤ ((a : Nat) : Int)); omega)
theorem natZ_geq_t {m n : Int} {kd kd' : IntKind} {K : V → Ans} (h : n ≤ m) (hk : K (.bool true) = .ok) : natZ m n (fun a b => (natI .geq).run kd a b K) (genI .geq kd' m n K) = .ok := natZ_geq (fun _ => hk) fun g => (g h).elim
theorem natZ_geq_f {m n : Int} {kd kd' : IntKind} {K : V → Ans} (h : ¬ (n ≤ m)) (hk : K (.bool false) = .ok) : natZ m n (fun a b => (natI .geq).run kd a b K) (genI .geq kd' m n K) = .ok := natZ_geq (fun g => (h g).elim) fun _ => hk

/-- Not looked into. -/
theorem natZ_gtr_raw {m n : Int} {kd kd' : IntKind} {K : V → Ans} (hk : K (.bool (decide (n < m))) = .ok) : natZ m n (fun a b => (natI .gtr).run kd a b K) (genI .gtr kd' m n K) = .ok :=
  natZ_gtr (fun h => by rwa [decide_eq_true h] at hk) (fun h => by rwa [decide_eq_false h] at hk)
theorem natZ_quo {m n : Int} {b : Nat} {kd : IntKind} {K : V → Ans} (hn : n = .ofNat b) (hb : 1 ≤ b) (h : K (.int kd (kd.wrap (m.tdiv n))) = .ok) :
    natZ m n (fun a b => must (Nat.ble 1 b) (forceN (Nat.div a b) fun c => boolK (Nat.ble c (maxK kd)) (K (.int kd (.ofNat c))) (divK kd n (kd.wrap (m.tdiv n)) K))) (divK kd n (kd.wrap (m.tdiv n)) K) = .ok := by
  subst hn
  have hd : divK kd (.ofNat b) (kd.wrap (m.tdiv (.ofNat b))) K = .ok := by
    unfold divK
    have : decide ((Int.ofNat b : Int) ≠ 0) = true := decide_eq_true (by intro e; have e : (b : Int) = 0 := e; omega)
    rw [this]
    refine must_ok ?_
    rw [forceZ_eq]
    exact h
  cases m with
  | negSucc a => exact hd
  | ofNat a =>
    show must (Nat.ble 1 b) (forceN (Nat.div a b) fun c => boolK (Nat.ble c (maxK kd)) (K (.int kd (.ofNat c))) (divK kd (.ofNat b) (kd.wrap ((Int.ofNat a).tdiv (.ofNat b))) K)) = .ok
    rw [Nat.ble_eq_true_of_le hb]
    refine must_ok ?_
    rw [forceN_eq]
    cases hc : Nat.ble (Nat.div a b) (maxK kd) with
    | false => exact hd
    | true =>
      have e : (Int.ofNat a).tdiv (Int.ofNat b) = Int.ofNat (Nat.div a b) := rfl
      rw [e, wrap_small (Nat.le_of_ble_eq_true hc)] at h
      exact h

end Go.Proofs.Ytmjmadcecbihbaa.M

/- The small functions of chapter 17: what both sides compute. -/
namespace Go.Proofs.Ytmjmadcecbihbaa.M
open Go
set_option linter.unusedSimpArgs false
set_option linter.unusedVariables false
variable {ρ : Nat → Value}

/-- A type by its cells. -/
def tyV (a b c : Int) (l n : Nat) (p : Option Addr) (s t : Nat) : V := .agg [.int .i64 a, .int .i64 b, .int .i64 c, .ps l n, .sc (.slice p s t)]
theorem arg_ty {a b c : Int} {l n : Nat} {p : Option Addr} {s t : Nat} : Arg2 [] (tyV a b c l n p s t) (tyV a b c l n p s t) := by
  refine .agg _ _ rfl fun i q q' h1 h2 => ?_
  rw [h1] at h2
  cases h2
  match i with
  | 0 => simp at h1; subst h1; exact .flat _ rfl
  | 1 => simp at h1; subst h1; exact .flat _ rfl
  | 2 => simp at h1; subst h1; exact .flat _ rfl
  | 3 => simp at h1; subst h1; exact .flat _ rfl
  | 4 => simp at h1; subst h1; exact .flat _ rfl
  | i + 5 => simp at h1

def mailM (a : Int) : Bool := decide (a = 3 ∨ a = 4 ∨ a = 5)
def sendM (a b : Int) : Bool := decide (a = 1 ∨ a = 3 ∨ a = 4 ∨ a = 5 ∨ a = 2 ∧ (b = 1 ∨ b = 2 ∨ b = 4))
def objM (a b : Int) : Bool → Bool
  | true => decide (a = 1 ∧ (b = 1 ∨ b = 2 ∨ b = 3) ∨ a ≠ 1 ∧ a = b ∧ (b = 2 ∨ b = 3 ∨ b = 4))
  | false => decide (a ≠ 1 ∧ a = b ∧ (b = 2 ∨ b = 3 ∨ b = 4))
def fitsM (a b c a' b' c' : Int) : Bool → Bool
  | true => decide (a' = 1 ∧ a = 1 ∨ (a' = 3 ∨ a' = 4) ∧ (a = 3 ∨ a = 4 ∨ a = 5) ∨ a' = 2 ∧ a = 2 ∧ c = c' ∧ (b = 1 ∧ (b' = 1 ∨ b' = 2 ∨ b' = 3) ∨ b ≠ 1 ∧ b = b' ∧ (b' = 2 ∨ b' = 3 ∨ b' = 4)))
  | false => decide (a' = 1 ∧ a = 1 ∨ (a' = 3 ∨ a' = 4) ∧ (a = 3 ∨ a = 4 ∨ a = 5) ∨ a' = 2 ∧ a = 2 ∧ c = c' ∧ (b ≠ 1 ∧ b = b' ∧ (b' = 2 ∨ b' = 3 ∨ b' = 4)))
def writeM (a : Int) : Bool := decide (a = 1 ∨ a = 3)
/-- What may be read of a field through an object: 0 is nothing. -/
def viewM (o f : Int) : Int := if o = 2 ∧ (f = 1 ∨ f = 2 ∨ f = 3) then 2 else if (o = 1 ∨ o = 2 ∨ o = 3) ∧ f = 4 then 4 else if (o = 1 ∨ o = 3) ∧ f = 2 then 2 else if o = 3 ∧ f = 3 then 3 else 0

attribute [local irreducible] forceN forceZ forceB okIf roundsK valK rowAt
attribute [local irreducible] acc4 get4 put4 natZ
set_option maxRecDepth 100000

set_option maxHeartbeats 4000000 in
theorem object_says (a b : Int) (m : Bool) : Says ρ Try.prog 16 [.int .i64 a, .int .i64 b, .bool m] (.bool (objM a b m)) := by
  refine says_run (call := call0) follows globL_ok call0_ok (fun q hq => by simp at hq; rcases hq with rfl | rfl | rfl <;> exact .flat _ rfl) ?_
  cases m
  all_goals repeat' (first | ((conv => lhs; whnf); first | refine natZ_nat ?_ | refine forceN_mod ?_ | refine forceN_div ?_ | refine natZ_eql_t (by first | assumption | omega) ?_ | refine natZ_eql_f (by first | assumption | omega) ?_ | refine natZ_eql (fun h => ?_) (fun h => ?_) | refine natZ_neq_t (by first | assumption | omega) ?_ | refine natZ_neq_f (by first | assumption | omega) ?_ | refine natZ_neq (fun h => ?_) (fun h => ?_) | refine natZ_lss_t (by first | assumption | omega) ?_ | refine natZ_lss_f (by first | assumption | omega) ?_ | refine natZ_lss (fun h => ?_) (fun h => ?_) | refine natZ_leq_t (by first | assumption | omega) ?_ | refine natZ_leq_f (by first | assumption | omega) ?_ | refine natZ_leq (fun h => ?_) (fun h => ?_) | refine natZ_gtr_t (by first | assumption | omega) ?_ | refine natZ_gtr_f (by first | assumption | omega) ?_ | refine natZ_gtr (fun h => ?_) (fun h => ?_) | refine natZ_geq_t (by first | assumption | omega) ?_ | refine natZ_geq_f (by first | assumption | omega) ?_ | refine natZ_geq (fun h => ?_) (fun h => ?_) | refine natZ_quo (by omega) ?_ | refine br_true (by assumption) ?_ | refine br_false (by assumption) ?_ | fail) | (first | ((conv => lhs; whnf); first | ((conv => lhs; arg 1; whnf); refine valK_ok ?_) | refine forceB_ok ?_ | refine forceN_add ?_ | refine forceN_sub ?_ | refine forceN_suc ?_ | refine forceN_part ?_ | refine forceN_byte ?_ | refine forceN_ok ?_ | refine forceZ_add ?_ | refine forceZ_mul (by (try simp only [maxK]); omega) ?_ | refine forceZ_sub ?_ | refine forceZ_ok ?_ | refine rowAt_ok (byteRows_get (by (try simp only [maxK]); omega)) ?_ | (apply rowAt_ok; (focus assumption)) | refine br_true (Nat.beq_refl _) ?_ | refine br_true (by assumption) ?_ | refine br_false (by assumption) ?_ | refine br_max (by (try simp only [maxK]); omega) ?_ | refine br_ble_t (by (try simp only [maxK]); omega) ?_ | refine br_ble_f (by (try simp only [maxK]); omega) ?_ | refine br_beq_f (by (try simp only [maxK]); omega) ?_ | refine br_true (by simp only [Bool.and_eq_true, Nat.ble_eq]; (try simp only []); omega) ?_ | (refine br_ble (fun h => ?_) (fun h => ?_) <;> (try simp only [] at h)) | (refine br_beq (fun h => ?_) (fun h => ?_) <;> (try simp only [] at h)) | refine br_split (fun h => ?_) (fun h => ?_) | fail) | ((conv => lhs; whnf); first | refine acc4_upd_ok (by omega) ?_ | refine acc4_get_same (by omega) ?_ | refine acc4_get_other (by omega) (by omega) (by omega) ?_ | refine acc4_get_ok (by omega) (by assumption) ?_ | refine opt3_split (fun h => ?_) (fun kind num tl h => ?_) | refine int_split (fun a h => ?_) (fun a h => ?_) | fail)))
  all_goals (try (conv => lhs; whnf))
  all_goals first
  | exact okIf_ok (frz_bool (decide_eq_true (by omega)).symm)
  | exact okIf_ok (frz_bool (decide_eq_false (by omega)).symm)
  | exact okIf_ok (frz_bool (Eq.symm (decide_eq_true (by omega))))

set_option maxHeartbeats 4000000 in
theorem mailbox_says (a b c : Int) (l n : Nat) (p : Option Addr) (s t : Nat) : Says ρ Try.prog 15 [tyV a b c l n p s t] (.bool (mailM a)) := by
  refine says_run (call := call0) follows globL_ok call0_ok (fun q hq => by simp at hq; subst hq; exact arg_ty) ?_
  repeat' (first | ((conv => lhs; whnf); first | refine natZ_nat ?_ | refine forceN_mod ?_ | refine forceN_div ?_ | refine natZ_eql_t (by first | assumption | omega) ?_ | refine natZ_eql_f (by first | assumption | omega) ?_ | refine natZ_eql (fun h => ?_) (fun h => ?_) | refine natZ_neq_t (by first | assumption | omega) ?_ | refine natZ_neq_f (by first | assumption | omega) ?_ | refine natZ_neq (fun h => ?_) (fun h => ?_) | refine natZ_lss_t (by first | assumption | omega) ?_ | refine natZ_lss_f (by first | assumption | omega) ?_ | refine natZ_lss (fun h => ?_) (fun h => ?_) | refine natZ_leq_t (by first | assumption | omega) ?_ | refine natZ_leq_f (by first | assumption | omega) ?_ | refine natZ_leq (fun h => ?_) (fun h => ?_) | refine natZ_gtr_t (by first | assumption | omega) ?_ | refine natZ_gtr_f (by first | assumption | omega) ?_ | refine natZ_gtr (fun h => ?_) (fun h => ?_) | refine natZ_geq_t (by first | assumption | omega) ?_ | refine natZ_geq_f (by first | assumption | omega) ?_ | refine natZ_geq (fun h => ?_) (fun h => ?_) | refine natZ_quo (by omega) ?_ | refine br_true (by assumption) ?_ | refine br_false (by assumption) ?_ | fail) | (first | ((conv => lhs; whnf); first | ((conv => lhs; arg 1; whnf); refine valK_ok ?_) | refine forceB_ok ?_ | refine forceN_add ?_ | refine forceN_sub ?_ | refine forceN_suc ?_ | refine forceN_part ?_ | refine forceN_byte ?_ | refine forceN_ok ?_ | refine forceZ_add ?_ | refine forceZ_mul (by (try simp only [maxK]); omega) ?_ | refine forceZ_sub ?_ | refine forceZ_ok ?_ | refine rowAt_ok (byteRows_get (by (try simp only [maxK]); omega)) ?_ | (apply rowAt_ok; (focus assumption)) | refine br_true (Nat.beq_refl _) ?_ | refine br_true (by assumption) ?_ | refine br_false (by assumption) ?_ | refine br_max (by (try simp only [maxK]); omega) ?_ | refine br_ble_t (by (try simp only [maxK]); omega) ?_ | refine br_ble_f (by (try simp only [maxK]); omega) ?_ | refine br_beq_f (by (try simp only [maxK]); omega) ?_ | refine br_true (by simp only [Bool.and_eq_true, Nat.ble_eq]; (try simp only []); omega) ?_ | (refine br_ble (fun h => ?_) (fun h => ?_) <;> (try simp only [] at h)) | (refine br_beq (fun h => ?_) (fun h => ?_) <;> (try simp only [] at h)) | refine br_split (fun h => ?_) (fun h => ?_) | fail) | ((conv => lhs; whnf); first | refine acc4_upd_ok (by omega) ?_ | refine acc4_get_same (by omega) ?_ | refine acc4_get_other (by omega) (by omega) (by omega) ?_ | refine acc4_get_ok (by omega) (by assumption) ?_ | refine opt3_split (fun h => ?_) (fun kind num tl h => ?_) | refine int_split (fun a h => ?_) (fun a h => ?_) | fail)))
  all_goals (try (conv => lhs; whnf))
  all_goals first
  | exact okIf_ok (frz_bool (decide_eq_true (by omega)).symm)
  | exact okIf_ok (frz_bool (decide_eq_false (by omega)).symm)

/-- What is asked of a type. -/
noncomputable def ovTy (f : Int → Int → Bool) : OvT := ovF fun
  | [.agg [.int .i64 a, .int .i64 b, .int .i64 c, .ps l n, .sc (.slice p s t)]] => some (true, .bool (f a b))
  | _ => none
theorem ovTy_ok {g : FuncId} {f : Int → Int → Bool} (hs : ∀ a b c l n p s t, Says ρ Try.prog g [tyV a b c l n p s t] (.bool (f a b))) : OvOK ρ Try.prog g (ovTy f) := ov_says fun args v h => by
  split at h
  · cases h
    exact hs _ _ _ _ _ _ _ _
  · cases h
noncomputable def ovObj : OvT := ovF fun
  | [.int .i64 a, .int .i64 b, .bool m] => some (true, .bool (objM a b m))
  | _ => none
theorem ovObj_ok : OvOK ρ Try.prog 16 ovObj := ov_says fun args v h => by
  split at h
  · cases h
    exact object_says _ _ _
  · cases h

set_option maxHeartbeats 4000000 in
theorem send_says (a b c : Int) (l n : Nat) (p : Option Addr) (s t : Nat) : Says ρ Try.prog 5 [tyV a b c l n p s t] (.bool (sendM a b)) := by
  refine says_run (call := call0) follows globL_ok call0_ok (fun q hq => by simp at hq; subst hq; exact arg_ty) ?_
  repeat' (first | ((conv => lhs; whnf); first | refine natZ_nat ?_ | refine forceN_mod ?_ | refine forceN_div ?_ | refine natZ_eql_t (by first | assumption | omega) ?_ | refine natZ_eql_f (by first | assumption | omega) ?_ | refine natZ_eql (fun h => ?_) (fun h => ?_) | refine natZ_neq_t (by first | assumption | omega) ?_ | refine natZ_neq_f (by first | assumption | omega) ?_ | refine natZ_neq (fun h => ?_) (fun h => ?_) | refine natZ_lss_t (by first | assumption | omega) ?_ | refine natZ_lss_f (by first | assumption | omega) ?_ | refine natZ_lss (fun h => ?_) (fun h => ?_) | refine natZ_leq_t (by first | assumption | omega) ?_ | refine natZ_leq_f (by first | assumption | omega) ?_ | refine natZ_leq (fun h => ?_) (fun h => ?_) | refine natZ_gtr_t (by first | assumption | omega) ?_ | refine natZ_gtr_f (by first | assumption | omega) ?_ | refine natZ_gtr (fun h => ?_) (fun h => ?_) | refine natZ_geq_t (by first | assumption | omega) ?_ | refine natZ_geq_f (by first | assumption | omega) ?_ | refine natZ_geq (fun h => ?_) (fun h => ?_) | refine natZ_quo (by omega) ?_ | refine br_true (by assumption) ?_ | refine br_false (by assumption) ?_ | fail) | (first | ((conv => lhs; whnf); first | ((conv => lhs; arg 1; whnf); refine valK_ok ?_) | refine forceB_ok ?_ | refine forceN_add ?_ | refine forceN_sub ?_ | refine forceN_suc ?_ | refine forceN_part ?_ | refine forceN_byte ?_ | refine forceN_ok ?_ | refine forceZ_add ?_ | refine forceZ_mul (by (try simp only [maxK]); omega) ?_ | refine forceZ_sub ?_ | refine forceZ_ok ?_ | refine rowAt_ok (byteRows_get (by (try simp only [maxK]); omega)) ?_ | (apply rowAt_ok; (focus assumption)) | refine br_true (Nat.beq_refl _) ?_ | refine br_true (by assumption) ?_ | refine br_false (by assumption) ?_ | refine br_max (by (try simp only [maxK]); omega) ?_ | refine br_ble_t (by (try simp only [maxK]); omega) ?_ | refine br_ble_f (by (try simp only [maxK]); omega) ?_ | refine br_beq_f (by (try simp only [maxK]); omega) ?_ | refine br_true (by simp only [Bool.and_eq_true, Nat.ble_eq]; (try simp only []); omega) ?_ | (refine br_ble (fun h => ?_) (fun h => ?_) <;> (try simp only [] at h)) | (refine br_beq (fun h => ?_) (fun h => ?_) <;> (try simp only [] at h)) | refine br_split (fun h => ?_) (fun h => ?_) | fail) | ((conv => lhs; whnf); first | refine acc4_upd_ok (by omega) ?_ | refine acc4_get_same (by omega) ?_ | refine acc4_get_other (by omega) (by omega) (by omega) ?_ | refine acc4_get_ok (by omega) (by assumption) ?_ | refine opt3_split (fun h => ?_) (fun kind num tl h => ?_) | refine int_split (fun a h => ?_) (fun a h => ?_) | fail)))
  all_goals (try (conv => lhs; whnf))
  all_goals first
  | exact okIf_ok (frz_bool (decide_eq_true (by omega)).symm)
  | exact okIf_ok (frz_bool (decide_eq_false (by omega)).symm)

set_option maxHeartbeats 4000000 in
theorem rsend_says (a b c : Int) (l n : Nat) (p : Option Addr) (s t : Nat) : Says ρ Try.prog 6 [tyV a b c l n p s t] (.bool (sendM a b)) := by
  refine says_run (call := over 15 (ovTy fun a _ => mailM a) call0) follows globL_ok (over_ok (ovTy_ok mailbox_says) call0_ok) (fun q hq => by simp at hq; subst hq; exact arg_ty) ?_
  by_cases hm : a = 3 ∨ a = 4 ∨ a = 5
  · have hb : mailM a = true := decide_eq_true hm
    repeat' (first | ((conv => lhs; whnf); first | refine natZ_nat ?_ | refine forceN_mod ?_ | refine forceN_div ?_ | refine natZ_eql_t (by first | assumption | omega) ?_ | refine natZ_eql_f (by first | assumption | omega) ?_ | refine natZ_eql (fun h => ?_) (fun h => ?_) | refine natZ_neq_t (by first | assumption | omega) ?_ | refine natZ_neq_f (by first | assumption | omega) ?_ | refine natZ_neq (fun h => ?_) (fun h => ?_) | refine natZ_lss_t (by first | assumption | omega) ?_ | refine natZ_lss_f (by first | assumption | omega) ?_ | refine natZ_lss (fun h => ?_) (fun h => ?_) | refine natZ_leq_t (by first | assumption | omega) ?_ | refine natZ_leq_f (by first | assumption | omega) ?_ | refine natZ_leq (fun h => ?_) (fun h => ?_) | refine natZ_gtr_t (by first | assumption | omega) ?_ | refine natZ_gtr_f (by first | assumption | omega) ?_ | refine natZ_gtr (fun h => ?_) (fun h => ?_) | refine natZ_geq_t (by first | assumption | omega) ?_ | refine natZ_geq_f (by first | assumption | omega) ?_ | refine natZ_geq (fun h => ?_) (fun h => ?_) | refine natZ_quo (by omega) ?_ | refine br_true (by assumption) ?_ | refine br_false (by assumption) ?_ | fail) | (first | ((conv => lhs; whnf); first | ((conv => lhs; arg 1; whnf); refine valK_ok ?_) | refine forceB_ok ?_ | refine forceN_add ?_ | refine forceN_sub ?_ | refine forceN_suc ?_ | refine forceN_part ?_ | refine forceN_byte ?_ | refine forceN_ok ?_ | refine forceZ_add ?_ | refine forceZ_mul (by (try simp only [maxK]); omega) ?_ | refine forceZ_sub ?_ | refine forceZ_ok ?_ | refine rowAt_ok (byteRows_get (by (try simp only [maxK]); omega)) ?_ | (apply rowAt_ok; (focus assumption)) | refine br_true (Nat.beq_refl _) ?_ | refine br_true (by assumption) ?_ | refine br_false (by assumption) ?_ | refine br_max (by (try simp only [maxK]); omega) ?_ | refine br_ble_t (by (try simp only [maxK]); omega) ?_ | refine br_ble_f (by (try simp only [maxK]); omega) ?_ | refine br_beq_f (by (try simp only [maxK]); omega) ?_ | refine br_true (by simp only [Bool.and_eq_true, Nat.ble_eq]; (try simp only []); omega) ?_ | (refine br_ble (fun h => ?_) (fun h => ?_) <;> (try simp only [] at h)) | (refine br_beq (fun h => ?_) (fun h => ?_) <;> (try simp only [] at h)) | refine br_split (fun h => ?_) (fun h => ?_) | fail) | ((conv => lhs; whnf); first | refine acc4_upd_ok (by omega) ?_ | refine acc4_get_same (by omega) ?_ | refine acc4_get_other (by omega) (by omega) (by omega) ?_ | refine acc4_get_ok (by omega) (by assumption) ?_ | refine opt3_split (fun h => ?_) (fun kind num tl h => ?_) | refine int_split (fun a h => ?_) (fun a h => ?_) | fail)))
    all_goals (try (conv => lhs; whnf))
    all_goals first
    | exact okIf_ok (frz_bool (decide_eq_true (by omega)).symm)
    | exact okIf_ok (frz_bool (decide_eq_false (by omega)).symm)
  · have hb : mailM a = false := decide_eq_false hm
    repeat' (first | ((conv => lhs; whnf); first | refine natZ_nat ?_ | refine forceN_mod ?_ | refine forceN_div ?_ | refine natZ_eql_t (by first | assumption | omega) ?_ | refine natZ_eql_f (by first | assumption | omega) ?_ | refine natZ_eql (fun h => ?_) (fun h => ?_) | refine natZ_neq_t (by first | assumption | omega) ?_ | refine natZ_neq_f (by first | assumption | omega) ?_ | refine natZ_neq (fun h => ?_) (fun h => ?_) | refine natZ_lss_t (by first | assumption | omega) ?_ | refine natZ_lss_f (by first | assumption | omega) ?_ | refine natZ_lss (fun h => ?_) (fun h => ?_) | refine natZ_leq_t (by first | assumption | omega) ?_ | refine natZ_leq_f (by first | assumption | omega) ?_ | refine natZ_leq (fun h => ?_) (fun h => ?_) | refine natZ_gtr_t (by first | assumption | omega) ?_ | refine natZ_gtr_f (by first | assumption | omega) ?_ | refine natZ_gtr (fun h => ?_) (fun h => ?_) | refine natZ_geq_t (by first | assumption | omega) ?_ | refine natZ_geq_f (by first | assumption | omega) ?_ | refine natZ_geq (fun h => ?_) (fun h => ?_) | refine natZ_quo (by omega) ?_ | refine br_true (by assumption) ?_ | refine br_false (by assumption) ?_ | fail) | (first | ((conv => lhs; whnf); first | ((conv => lhs; arg 1; whnf); refine valK_ok ?_) | refine forceB_ok ?_ | refine forceN_add ?_ | refine forceN_sub ?_ | refine forceN_suc ?_ | refine forceN_part ?_ | refine forceN_byte ?_ | refine forceN_ok ?_ | refine forceZ_add ?_ | refine forceZ_mul (by (try simp only [maxK]); omega) ?_ | refine forceZ_sub ?_ | refine forceZ_ok ?_ | refine rowAt_ok (byteRows_get (by (try simp only [maxK]); omega)) ?_ | (apply rowAt_ok; (focus assumption)) | refine br_true (Nat.beq_refl _) ?_ | refine br_true (by assumption) ?_ | refine br_false (by assumption) ?_ | refine br_max (by (try simp only [maxK]); omega) ?_ | refine br_ble_t (by (try simp only [maxK]); omega) ?_ | refine br_ble_f (by (try simp only [maxK]); omega) ?_ | refine br_beq_f (by (try simp only [maxK]); omega) ?_ | refine br_true (by simp only [Bool.and_eq_true, Nat.ble_eq]; (try simp only []); omega) ?_ | (refine br_ble (fun h => ?_) (fun h => ?_) <;> (try simp only [] at h)) | (refine br_beq (fun h => ?_) (fun h => ?_) <;> (try simp only [] at h)) | refine br_split (fun h => ?_) (fun h => ?_) | fail) | ((conv => lhs; whnf); first | refine acc4_upd_ok (by omega) ?_ | refine acc4_get_same (by omega) ?_ | refine acc4_get_other (by omega) (by omega) (by omega) ?_ | refine acc4_get_ok (by omega) (by assumption) ?_ | refine opt3_split (fun h => ?_) (fun kind num tl h => ?_) | refine int_split (fun a h => ?_) (fun a h => ?_) | fail)))
    all_goals (try (conv => lhs; whnf))
    all_goals first
    | exact okIf_ok (frz_bool (decide_eq_true (by omega)).symm)
    | exact okIf_ok (frz_bool (decide_eq_false (by omega)).symm)

theorem args3_ty {q r : V} {m : Bool} (hq : Arg2 [] q q) (hr : Arg2 [] r r) : ∀ x ∈ [q, r, V.bool m], Arg2 [] x x := fun x hx => by
  simp at hx
  rcases hx with rfl | rfl | rfl
  · exact hq
  · exact hr
  · exact .flat _ rfl

set_option maxHeartbeats 8000000 in
theorem fits_says (a b c a' b' c' : Int) (m : Bool) (l n l' n' : Nat) (p p' : Option Addr) (s t s' t' : Nat) : Says ρ Try.prog 7 [tyV a b c l n p s t, tyV a' b' c' l' n' p' s' t', .bool m] (.bool (fitsM a b c a' b' c' m)) := by
  refine says_run (call := over 16 ovObj call0) follows globL_ok (over_ok ovObj_ok call0_ok) (args3_ty arg_ty arg_ty) ?_
  cases m
  · by_cases hm : b ≠ 1 ∧ b = b' ∧ (b' = 2 ∨ b' = 3 ∨ b' = 4)
    · have hb : objM b b' false = true := decide_eq_true hm
      repeat' (first | ((conv => lhs; whnf); first | refine natZ_nat ?_ | refine forceN_mod ?_ | refine forceN_div ?_ | refine natZ_eql_t (by first | assumption | omega) ?_ | refine natZ_eql_f (by first | assumption | omega) ?_ | refine natZ_eql (fun h => ?_) (fun h => ?_) | refine natZ_neq_t (by first | assumption | omega) ?_ | refine natZ_neq_f (by first | assumption | omega) ?_ | refine natZ_neq (fun h => ?_) (fun h => ?_) | refine natZ_lss_t (by first | assumption | omega) ?_ | refine natZ_lss_f (by first | assumption | omega) ?_ | refine natZ_lss (fun h => ?_) (fun h => ?_) | refine natZ_leq_t (by first | assumption | omega) ?_ | refine natZ_leq_f (by first | assumption | omega) ?_ | refine natZ_leq (fun h => ?_) (fun h => ?_) | refine natZ_gtr_t (by first | assumption | omega) ?_ | refine natZ_gtr_f (by first | assumption | omega) ?_ | refine natZ_gtr (fun h => ?_) (fun h => ?_) | refine natZ_geq_t (by first | assumption | omega) ?_ | refine natZ_geq_f (by first | assumption | omega) ?_ | refine natZ_geq (fun h => ?_) (fun h => ?_) | refine natZ_quo (by omega) ?_ | refine br_true (by assumption) ?_ | refine br_false (by assumption) ?_ | fail) | (first | ((conv => lhs; whnf); first | ((conv => lhs; arg 1; whnf); refine valK_ok ?_) | refine forceB_ok ?_ | refine forceN_add ?_ | refine forceN_sub ?_ | refine forceN_suc ?_ | refine forceN_part ?_ | refine forceN_byte ?_ | refine forceN_ok ?_ | refine forceZ_add ?_ | refine forceZ_mul (by (try simp only [maxK]); omega) ?_ | refine forceZ_sub ?_ | refine forceZ_ok ?_ | refine rowAt_ok (byteRows_get (by (try simp only [maxK]); omega)) ?_ | (apply rowAt_ok; (focus assumption)) | refine br_true (Nat.beq_refl _) ?_ | refine br_true (by assumption) ?_ | refine br_false (by assumption) ?_ | refine br_max (by (try simp only [maxK]); omega) ?_ | refine br_ble_t (by (try simp only [maxK]); omega) ?_ | refine br_ble_f (by (try simp only [maxK]); omega) ?_ | refine br_beq_f (by (try simp only [maxK]); omega) ?_ | refine br_true (by simp only [Bool.and_eq_true, Nat.ble_eq]; (try simp only []); omega) ?_ | (refine br_ble (fun h => ?_) (fun h => ?_) <;> (try simp only [] at h)) | (refine br_beq (fun h => ?_) (fun h => ?_) <;> (try simp only [] at h)) | refine br_split (fun h => ?_) (fun h => ?_) | fail) | ((conv => lhs; whnf); first | refine acc4_upd_ok (by omega) ?_ | refine acc4_get_same (by omega) ?_ | refine acc4_get_other (by omega) (by omega) (by omega) ?_ | refine acc4_get_ok (by omega) (by assumption) ?_ | refine opt3_split (fun h => ?_) (fun kind num tl h => ?_) | refine int_split (fun a h => ?_) (fun a h => ?_) | fail)))
      all_goals (try (conv => lhs; whnf))
      all_goals first
      | exact okIf_ok (frz_bool (decide_eq_true (by omega)).symm)
      | exact okIf_ok (frz_bool (decide_eq_false (by omega)).symm)
    · have hb : objM b b' false = false := decide_eq_false hm
      repeat' (first | ((conv => lhs; whnf); first | refine natZ_nat ?_ | refine forceN_mod ?_ | refine forceN_div ?_ | refine natZ_eql_t (by first | assumption | omega) ?_ | refine natZ_eql_f (by first | assumption | omega) ?_ | refine natZ_eql (fun h => ?_) (fun h => ?_) | refine natZ_neq_t (by first | assumption | omega) ?_ | refine natZ_neq_f (by first | assumption | omega) ?_ | refine natZ_neq (fun h => ?_) (fun h => ?_) | refine natZ_lss_t (by first | assumption | omega) ?_ | refine natZ_lss_f (by first | assumption | omega) ?_ | refine natZ_lss (fun h => ?_) (fun h => ?_) | refine natZ_leq_t (by first | assumption | omega) ?_ | refine natZ_leq_f (by first | assumption | omega) ?_ | refine natZ_leq (fun h => ?_) (fun h => ?_) | refine natZ_gtr_t (by first | assumption | omega) ?_ | refine natZ_gtr_f (by first | assumption | omega) ?_ | refine natZ_gtr (fun h => ?_) (fun h => ?_) | refine natZ_geq_t (by first | assumption | omega) ?_ | refine natZ_geq_f (by first | assumption | omega) ?_ | refine natZ_geq (fun h => ?_) (fun h => ?_) | refine natZ_quo (by omega) ?_ | refine br_true (by assumption) ?_ | refine br_false (by assumption) ?_ | fail) | (first | ((conv => lhs; whnf); first | ((conv => lhs; arg 1; whnf); refine valK_ok ?_) | refine forceB_ok ?_ | refine forceN_add ?_ | refine forceN_sub ?_ | refine forceN_suc ?_ | refine forceN_part ?_ | refine forceN_byte ?_ | refine forceN_ok ?_ | refine forceZ_add ?_ | refine forceZ_mul (by (try simp only [maxK]); omega) ?_ | refine forceZ_sub ?_ | refine forceZ_ok ?_ | refine rowAt_ok (byteRows_get (by (try simp only [maxK]); omega)) ?_ | (apply rowAt_ok; (focus assumption)) | refine br_true (Nat.beq_refl _) ?_ | refine br_true (by assumption) ?_ | refine br_false (by assumption) ?_ | refine br_max (by (try simp only [maxK]); omega) ?_ | refine br_ble_t (by (try simp only [maxK]); omega) ?_ | refine br_ble_f (by (try simp only [maxK]); omega) ?_ | refine br_beq_f (by (try simp only [maxK]); omega) ?_ | refine br_true (by simp only [Bool.and_eq_true, Nat.ble_eq]; (try simp only []); omega) ?_ | (refine br_ble (fun h => ?_) (fun h => ?_) <;> (try simp only [] at h)) | (refine br_beq (fun h => ?_) (fun h => ?_) <;> (try simp only [] at h)) | refine br_split (fun h => ?_) (fun h => ?_) | fail) | ((conv => lhs; whnf); first | refine acc4_upd_ok (by omega) ?_ | refine acc4_get_same (by omega) ?_ | refine acc4_get_other (by omega) (by omega) (by omega) ?_ | refine acc4_get_ok (by omega) (by assumption) ?_ | refine opt3_split (fun h => ?_) (fun kind num tl h => ?_) | refine int_split (fun a h => ?_) (fun a h => ?_) | fail)))
      all_goals (try (conv => lhs; whnf))
      all_goals first
      | exact okIf_ok (frz_bool (decide_eq_true (by omega)).symm)
      | exact okIf_ok (frz_bool (decide_eq_false (by omega)).symm)
  · by_cases hm : b = 1 ∧ (b' = 1 ∨ b' = 2 ∨ b' = 3) ∨ b ≠ 1 ∧ b = b' ∧ (b' = 2 ∨ b' = 3 ∨ b' = 4)
    · have hb : objM b b' true = true := decide_eq_true hm
      repeat' (first | ((conv => lhs; whnf); first | refine natZ_nat ?_ | refine forceN_mod ?_ | refine forceN_div ?_ | refine natZ_eql_t (by first | assumption | omega) ?_ | refine natZ_eql_f (by first | assumption | omega) ?_ | refine natZ_eql (fun h => ?_) (fun h => ?_) | refine natZ_neq_t (by first | assumption | omega) ?_ | refine natZ_neq_f (by first | assumption | omega) ?_ | refine natZ_neq (fun h => ?_) (fun h => ?_) | refine natZ_lss_t (by first | assumption | omega) ?_ | refine natZ_lss_f (by first | assumption | omega) ?_ | refine natZ_lss (fun h => ?_) (fun h => ?_) | refine natZ_leq_t (by first | assumption | omega) ?_ | refine natZ_leq_f (by first | assumption | omega) ?_ | refine natZ_leq (fun h => ?_) (fun h => ?_) | refine natZ_gtr_t (by first | assumption | omega) ?_ | refine natZ_gtr_f (by first | assumption | omega) ?_ | refine natZ_gtr (fun h => ?_) (fun h => ?_) | refine natZ_geq_t (by first | assumption | omega) ?_ | refine natZ_geq_f (by first | assumption | omega) ?_ | refine natZ_geq (fun h => ?_) (fun h => ?_) | refine natZ_quo (by omega) ?_ | refine br_true (by assumption) ?_ | refine br_false (by assumption) ?_ | fail) | (first | ((conv => lhs; whnf); first | ((conv => lhs; arg 1; whnf); refine valK_ok ?_) | refine forceB_ok ?_ | refine forceN_add ?_ | refine forceN_sub ?_ | refine forceN_suc ?_ | refine forceN_part ?_ | refine forceN_byte ?_ | refine forceN_ok ?_ | refine forceZ_add ?_ | refine forceZ_mul (by (try simp only [maxK]); omega) ?_ | refine forceZ_sub ?_ | refine forceZ_ok ?_ | refine rowAt_ok (byteRows_get (by (try simp only [maxK]); omega)) ?_ | (apply rowAt_ok; (focus assumption)) | refine br_true (Nat.beq_refl _) ?_ | refine br_true (by assumption) ?_ | refine br_false (by assumption) ?_ | refine br_max (by (try simp only [maxK]); omega) ?_ | refine br_ble_t (by (try simp only [maxK]); omega) ?_ | refine br_ble_f (by (try simp only [maxK]); omega) ?_ | refine br_beq_f (by (try simp only [maxK]); omega) ?_ | refine br_true (by simp only [Bool.and_eq_true, Nat.ble_eq]; (try simp only []); omega) ?_ | (refine br_ble (fun h => ?_) (fun h => ?_) <;> (try simp only [] at h)) | (refine br_beq (fun h => ?_) (fun h => ?_) <;> (try simp only [] at h)) | refine br_split (fun h => ?_) (fun h => ?_) | fail) | ((conv => lhs; whnf); first | refine acc4_upd_ok (by omega) ?_ | refine acc4_get_same (by omega) ?_ | refine acc4_get_other (by omega) (by omega) (by omega) ?_ | refine acc4_get_ok (by omega) (by assumption) ?_ | refine opt3_split (fun h => ?_) (fun kind num tl h => ?_) | refine int_split (fun a h => ?_) (fun a h => ?_) | fail)))
      all_goals (try (conv => lhs; whnf))
      all_goals first
      | exact okIf_ok (frz_bool (decide_eq_true (by omega)).symm)
      | exact okIf_ok (frz_bool (decide_eq_false (by omega)).symm)
    · have hb : objM b b' true = false := decide_eq_false hm
      repeat' (first | ((conv => lhs; whnf); first | refine natZ_nat ?_ | refine forceN_mod ?_ | refine forceN_div ?_ | refine natZ_eql_t (by first | assumption | omega) ?_ | refine natZ_eql_f (by first | assumption | omega) ?_ | refine natZ_eql (fun h => ?_) (fun h => ?_) | refine natZ_neq_t (by first | assumption | omega) ?_ | refine natZ_neq_f (by first | assumption | omega) ?_ | refine natZ_neq (fun h => ?_) (fun h => ?_) | refine natZ_lss_t (by first | assumption | omega) ?_ | refine natZ_lss_f (by first | assumption | omega) ?_ | refine natZ_lss (fun h => ?_) (fun h => ?_) | refine natZ_leq_t (by first | assumption | omega) ?_ | refine natZ_leq_f (by first | assumption | omega) ?_ | refine natZ_leq (fun h => ?_) (fun h => ?_) | refine natZ_gtr_t (by first | assumption | omega) ?_ | refine natZ_gtr_f (by first | assumption | omega) ?_ | refine natZ_gtr (fun h => ?_) (fun h => ?_) | refine natZ_geq_t (by first | assumption | omega) ?_ | refine natZ_geq_f (by first | assumption | omega) ?_ | refine natZ_geq (fun h => ?_) (fun h => ?_) | refine natZ_quo (by omega) ?_ | refine br_true (by assumption) ?_ | refine br_false (by assumption) ?_ | fail) | (first | ((conv => lhs; whnf); first | ((conv => lhs; arg 1; whnf); refine valK_ok ?_) | refine forceB_ok ?_ | refine forceN_add ?_ | refine forceN_sub ?_ | refine forceN_suc ?_ | refine forceN_part ?_ | refine forceN_byte ?_ | refine forceN_ok ?_ | refine forceZ_add ?_ | refine forceZ_mul (by (try simp only [maxK]); omega) ?_ | refine forceZ_sub ?_ | refine forceZ_ok ?_ | refine rowAt_ok (byteRows_get (by (try simp only [maxK]); omega)) ?_ | (apply rowAt_ok; (focus assumption)) | refine br_true (Nat.beq_refl _) ?_ | refine br_true (by assumption) ?_ | refine br_false (by assumption) ?_ | refine br_max (by (try simp only [maxK]); omega) ?_ | refine br_ble_t (by (try simp only [maxK]); omega) ?_ | refine br_ble_f (by (try simp only [maxK]); omega) ?_ | refine br_beq_f (by (try simp only [maxK]); omega) ?_ | refine br_true (by simp only [Bool.and_eq_true, Nat.ble_eq]; (try simp only []); omega) ?_ | (refine br_ble (fun h => ?_) (fun h => ?_) <;> (try simp only [] at h)) | (refine br_beq (fun h => ?_) (fun h => ?_) <;> (try simp only [] at h)) | refine br_split (fun h => ?_) (fun h => ?_) | fail) | ((conv => lhs; whnf); first | refine acc4_upd_ok (by omega) ?_ | refine acc4_get_same (by omega) ?_ | refine acc4_get_other (by omega) (by omega) (by omega) ?_ | refine acc4_get_ok (by omega) (by assumption) ?_ | refine opt3_split (fun h => ?_) (fun kind num tl h => ?_) | refine int_split (fun a h => ?_) (fun a h => ?_) | fail)))
      all_goals (try (conv => lhs; whnf))
      all_goals first
      | exact okIf_ok (frz_bool (decide_eq_true (by omega)).symm)
      | exact okIf_ok (frz_bool (decide_eq_false (by omega)).symm)

set_option maxHeartbeats 8000000 in
theorem rfits_says (a b c a' b' c' : Int) (m : Bool) (l n l' n' : Nat) (p p' : Option Addr) (s t s' t' : Nat) : Says ρ Try.prog 8 [tyV a b c l n p s t, tyV a' b' c' l' n' p' s' t', .bool m] (.bool (fitsM a b c a' b' c' m)) := by
  refine says_run (call := over 15 (ovTy fun a _ => mailM a) call0) follows globL_ok (over_ok (ovTy_ok mailbox_says) call0_ok) (args3_ty arg_ty arg_ty) ?_
  by_cases hm : a = 3 ∨ a = 4 ∨ a = 5
  · have hb : mailM a = true := decide_eq_true hm
    cases m
    all_goals repeat' (first | ((conv => lhs; whnf); first | refine natZ_nat ?_ | refine forceN_mod ?_ | refine forceN_div ?_ | refine natZ_eql_t (by first | assumption | omega) ?_ | refine natZ_eql_f (by first | assumption | omega) ?_ | refine natZ_eql (fun h => ?_) (fun h => ?_) | refine natZ_neq_t (by first | assumption | omega) ?_ | refine natZ_neq_f (by first | assumption | omega) ?_ | refine natZ_neq (fun h => ?_) (fun h => ?_) | refine natZ_lss_t (by first | assumption | omega) ?_ | refine natZ_lss_f (by first | assumption | omega) ?_ | refine natZ_lss (fun h => ?_) (fun h => ?_) | refine natZ_leq_t (by first | assumption | omega) ?_ | refine natZ_leq_f (by first | assumption | omega) ?_ | refine natZ_leq (fun h => ?_) (fun h => ?_) | refine natZ_gtr_t (by first | assumption | omega) ?_ | refine natZ_gtr_f (by first | assumption | omega) ?_ | refine natZ_gtr (fun h => ?_) (fun h => ?_) | refine natZ_geq_t (by first | assumption | omega) ?_ | refine natZ_geq_f (by first | assumption | omega) ?_ | refine natZ_geq (fun h => ?_) (fun h => ?_) | refine natZ_quo (by omega) ?_ | refine br_true (by assumption) ?_ | refine br_false (by assumption) ?_ | fail) | (first | ((conv => lhs; whnf); first | ((conv => lhs; arg 1; whnf); refine valK_ok ?_) | refine forceB_ok ?_ | refine forceN_add ?_ | refine forceN_sub ?_ | refine forceN_suc ?_ | refine forceN_part ?_ | refine forceN_byte ?_ | refine forceN_ok ?_ | refine forceZ_add ?_ | refine forceZ_mul (by (try simp only [maxK]); omega) ?_ | refine forceZ_sub ?_ | refine forceZ_ok ?_ | refine rowAt_ok (byteRows_get (by (try simp only [maxK]); omega)) ?_ | (apply rowAt_ok; (focus assumption)) | refine br_true (Nat.beq_refl _) ?_ | refine br_true (by assumption) ?_ | refine br_false (by assumption) ?_ | refine br_max (by (try simp only [maxK]); omega) ?_ | refine br_ble_t (by (try simp only [maxK]); omega) ?_ | refine br_ble_f (by (try simp only [maxK]); omega) ?_ | refine br_beq_f (by (try simp only [maxK]); omega) ?_ | refine br_true (by simp only [Bool.and_eq_true, Nat.ble_eq]; (try simp only []); omega) ?_ | (refine br_ble (fun h => ?_) (fun h => ?_) <;> (try simp only [] at h)) | (refine br_beq (fun h => ?_) (fun h => ?_) <;> (try simp only [] at h)) | refine br_split (fun h => ?_) (fun h => ?_) | fail) | ((conv => lhs; whnf); first | refine acc4_upd_ok (by omega) ?_ | refine acc4_get_same (by omega) ?_ | refine acc4_get_other (by omega) (by omega) (by omega) ?_ | refine acc4_get_ok (by omega) (by assumption) ?_ | refine opt3_split (fun h => ?_) (fun kind num tl h => ?_) | refine int_split (fun a h => ?_) (fun a h => ?_) | fail)))
    all_goals (try (conv => lhs; whnf))
    all_goals first
    | exact okIf_ok (frz_bool (decide_eq_true (by omega)).symm)
    | exact okIf_ok (frz_bool (decide_eq_false (by omega)).symm)
  · have hb : mailM a = false := decide_eq_false hm
    cases m
    all_goals repeat' (first | ((conv => lhs; whnf); first | refine natZ_nat ?_ | refine forceN_mod ?_ | refine forceN_div ?_ | refine natZ_eql_t (by first | assumption | omega) ?_ | refine natZ_eql_f (by first | assumption | omega) ?_ | refine natZ_eql (fun h => ?_) (fun h => ?_) | refine natZ_neq_t (by first | assumption | omega) ?_ | refine natZ_neq_f (by first | assumption | omega) ?_ | refine natZ_neq (fun h => ?_) (fun h => ?_) | refine natZ_lss_t (by first | assumption | omega) ?_ | refine natZ_lss_f (by first | assumption | omega) ?_ | refine natZ_lss (fun h => ?_) (fun h => ?_) | refine natZ_leq_t (by first | assumption | omega) ?_ | refine natZ_leq_f (by first | assumption | omega) ?_ | refine natZ_leq (fun h => ?_) (fun h => ?_) | refine natZ_gtr_t (by first | assumption | omega) ?_ | refine natZ_gtr_f (by first | assumption | omega) ?_ | refine natZ_gtr (fun h => ?_) (fun h => ?_) | refine natZ_geq_t (by first | assumption | omega) ?_ | refine natZ_geq_f (by first | assumption | omega) ?_ | refine natZ_geq (fun h => ?_) (fun h => ?_) | refine natZ_quo (by omega) ?_ | refine br_true (by assumption) ?_ | refine br_false (by assumption) ?_ | fail) | (first | ((conv => lhs; whnf); first | ((conv => lhs; arg 1; whnf); refine valK_ok ?_) | refine forceB_ok ?_ | refine forceN_add ?_ | refine forceN_sub ?_ | refine forceN_suc ?_ | refine forceN_part ?_ | refine forceN_byte ?_ | refine forceN_ok ?_ | refine forceZ_add ?_ | refine forceZ_mul (by (try simp only [maxK]); omega) ?_ | refine forceZ_sub ?_ | refine forceZ_ok ?_ | refine rowAt_ok (byteRows_get (by (try simp only [maxK]); omega)) ?_ | (apply rowAt_ok; (focus assumption)) | refine br_true (Nat.beq_refl _) ?_ | refine br_true (by assumption) ?_ | refine br_false (by assumption) ?_ | refine br_max (by (try simp only [maxK]); omega) ?_ | refine br_ble_t (by (try simp only [maxK]); omega) ?_ | refine br_ble_f (by (try simp only [maxK]); omega) ?_ | refine br_beq_f (by (try simp only [maxK]); omega) ?_ | refine br_true (by simp only [Bool.and_eq_true, Nat.ble_eq]; (try simp only []); omega) ?_ | (refine br_ble (fun h => ?_) (fun h => ?_) <;> (try simp only [] at h)) | (refine br_beq (fun h => ?_) (fun h => ?_) <;> (try simp only [] at h)) | refine br_split (fun h => ?_) (fun h => ?_) | fail) | ((conv => lhs; whnf); first | refine acc4_upd_ok (by omega) ?_ | refine acc4_get_same (by omega) ?_ | refine acc4_get_other (by omega) (by omega) (by omega) ?_ | refine acc4_get_ok (by omega) (by assumption) ?_ | refine opt3_split (fun h => ?_) (fun kind num tl h => ?_) | refine int_split (fun a h => ?_) (fun a h => ?_) | fail)))
    all_goals (try (conv => lhs; whnf))
    all_goals first
    | exact okIf_ok (frz_bool (decide_eq_true (by omega)).symm)
    | exact okIf_ok (frz_bool (decide_eq_false (by omega)).symm)

set_option maxHeartbeats 4000000 in
theorem write_says (a : Int) : Says ρ Try.prog 12 [.int .i64 a] (.bool (writeM a)) := by
  refine says_run (call := call0) follows globL_ok call0_ok (arg1 rfl) ?_
  repeat' (first | ((conv => lhs; whnf); first | refine natZ_nat ?_ | refine forceN_mod ?_ | refine forceN_div ?_ | refine natZ_eql_t (by first | assumption | omega) ?_ | refine natZ_eql_f (by first | assumption | omega) ?_ | refine natZ_eql (fun h => ?_) (fun h => ?_) | refine natZ_neq_t (by first | assumption | omega) ?_ | refine natZ_neq_f (by first | assumption | omega) ?_ | refine natZ_neq (fun h => ?_) (fun h => ?_) | refine natZ_lss_t (by first | assumption | omega) ?_ | refine natZ_lss_f (by first | assumption | omega) ?_ | refine natZ_lss (fun h => ?_) (fun h => ?_) | refine natZ_leq_t (by first | assumption | omega) ?_ | refine natZ_leq_f (by first | assumption | omega) ?_ | refine natZ_leq (fun h => ?_) (fun h => ?_) | refine natZ_gtr_t (by first | assumption | omega) ?_ | refine natZ_gtr_f (by first | assumption | omega) ?_ | refine natZ_gtr (fun h => ?_) (fun h => ?_) | refine natZ_geq_t (by first | assumption | omega) ?_ | refine natZ_geq_f (by first | assumption | omega) ?_ | refine natZ_geq (fun h => ?_) (fun h => ?_) | refine natZ_quo (by omega) ?_ | refine br_true (by assumption) ?_ | refine br_false (by assumption) ?_ | fail) | (first | ((conv => lhs; whnf); first | ((conv => lhs; arg 1; whnf); refine valK_ok ?_) | refine forceB_ok ?_ | refine forceN_add ?_ | refine forceN_sub ?_ | refine forceN_suc ?_ | refine forceN_part ?_ | refine forceN_byte ?_ | refine forceN_ok ?_ | refine forceZ_add ?_ | refine forceZ_mul (by (try simp only [maxK]); omega) ?_ | refine forceZ_sub ?_ | refine forceZ_ok ?_ | refine rowAt_ok (byteRows_get (by (try simp only [maxK]); omega)) ?_ | (apply rowAt_ok; (focus assumption)) | refine br_true (Nat.beq_refl _) ?_ | refine br_true (by assumption) ?_ | refine br_false (by assumption) ?_ | refine br_max (by (try simp only [maxK]); omega) ?_ | refine br_ble_t (by (try simp only [maxK]); omega) ?_ | refine br_ble_f (by (try simp only [maxK]); omega) ?_ | refine br_beq_f (by (try simp only [maxK]); omega) ?_ | refine br_true (by simp only [Bool.and_eq_true, Nat.ble_eq]; (try simp only []); omega) ?_ | (refine br_ble (fun h => ?_) (fun h => ?_) <;> (try simp only [] at h)) | (refine br_beq (fun h => ?_) (fun h => ?_) <;> (try simp only [] at h)) | refine br_split (fun h => ?_) (fun h => ?_) | fail) | ((conv => lhs; whnf); first | refine acc4_upd_ok (by omega) ?_ | refine acc4_get_same (by omega) ?_ | refine acc4_get_other (by omega) (by omega) (by omega) ?_ | refine acc4_get_ok (by omega) (by assumption) ?_ | refine opt3_split (fun h => ?_) (fun kind num tl h => ?_) | refine int_split (fun a h => ?_) (fun a h => ?_) | fail)))
  all_goals (try (conv => lhs; whnf))
  all_goals first
  | exact okIf_ok (frz_bool (decide_eq_true (by omega)).symm)
  | exact okIf_ok (frz_bool (decide_eq_false (by omega)).symm)
set_option maxHeartbeats 4000000 in
theorem rwrite_says (a : Int) : Says ρ Try.prog 13 [.int .i64 a] (.bool (writeM a)) := by
  refine says_run (call := call0) follows globL_ok call0_ok (arg1 rfl) ?_
  repeat' (first | ((conv => lhs; whnf); first | refine natZ_nat ?_ | refine forceN_mod ?_ | refine forceN_div ?_ | refine natZ_eql_t (by first | assumption | omega) ?_ | refine natZ_eql_f (by first | assumption | omega) ?_ | refine natZ_eql (fun h => ?_) (fun h => ?_) | refine natZ_neq_t (by first | assumption | omega) ?_ | refine natZ_neq_f (by first | assumption | omega) ?_ | refine natZ_neq (fun h => ?_) (fun h => ?_) | refine natZ_lss_t (by first | assumption | omega) ?_ | refine natZ_lss_f (by first | assumption | omega) ?_ | refine natZ_lss (fun h => ?_) (fun h => ?_) | refine natZ_leq_t (by first | assumption | omega) ?_ | refine natZ_leq_f (by first | assumption | omega) ?_ | refine natZ_leq (fun h => ?_) (fun h => ?_) | refine natZ_gtr_t (by first | assumption | omega) ?_ | refine natZ_gtr_f (by first | assumption | omega) ?_ | refine natZ_gtr (fun h => ?_) (fun h => ?_) | refine natZ_geq_t (by first | assumption | omega) ?_ | refine natZ_geq_f (by first | assumption | omega) ?_ | refine natZ_geq (fun h => ?_) (fun h => ?_) | refine natZ_quo (by omega) ?_ | refine br_true (by assumption) ?_ | refine br_false (by assumption) ?_ | fail) | (first | ((conv => lhs; whnf); first | ((conv => lhs; arg 1; whnf); refine valK_ok ?_) | refine forceB_ok ?_ | refine forceN_add ?_ | refine forceN_sub ?_ | refine forceN_suc ?_ | refine forceN_part ?_ | refine forceN_byte ?_ | refine forceN_ok ?_ | refine forceZ_add ?_ | refine forceZ_mul (by (try simp only [maxK]); omega) ?_ | refine forceZ_sub ?_ | refine forceZ_ok ?_ | refine rowAt_ok (byteRows_get (by (try simp only [maxK]); omega)) ?_ | (apply rowAt_ok; (focus assumption)) | refine br_true (Nat.beq_refl _) ?_ | refine br_true (by assumption) ?_ | refine br_false (by assumption) ?_ | refine br_max (by (try simp only [maxK]); omega) ?_ | refine br_ble_t (by (try simp only [maxK]); omega) ?_ | refine br_ble_f (by (try simp only [maxK]); omega) ?_ | refine br_beq_f (by (try simp only [maxK]); omega) ?_ | refine br_true (by simp only [Bool.and_eq_true, Nat.ble_eq]; (try simp only []); omega) ?_ | (refine br_ble (fun h => ?_) (fun h => ?_) <;> (try simp only [] at h)) | (refine br_beq (fun h => ?_) (fun h => ?_) <;> (try simp only [] at h)) | refine br_split (fun h => ?_) (fun h => ?_) | fail) | ((conv => lhs; whnf); first | refine acc4_upd_ok (by omega) ?_ | refine acc4_get_same (by omega) ?_ | refine acc4_get_other (by omega) (by omega) (by omega) ?_ | refine acc4_get_ok (by omega) (by assumption) ?_ | refine opt3_split (fun h => ?_) (fun kind num tl h => ?_) | refine int_split (fun a h => ?_) (fun a h => ?_) | fail)))
  all_goals (try (conv => lhs; whnf))
  all_goals first
  | exact okIf_ok (frz_bool (decide_eq_true (by omega)).symm)
  | exact okIf_ok (frz_bool (decide_eq_false (by omega)).symm)

set_option maxHeartbeats 8000000 in
theorem rview_says (a b : Int) : Says ρ Try.prog 11 [.int .i64 a, .int .i64 b] (.int .i64 (viewM a b)) := by
  refine says_run (call := call0) follows globL_ok call0_ok (arg2 rfl rfl) ?_
  repeat' (first | ((conv => lhs; whnf); first | refine natZ_nat ?_ | refine forceN_mod ?_ | refine forceN_div ?_ | refine natZ_eql_t (by first | assumption | omega) ?_ | refine natZ_eql_f (by first | assumption | omega) ?_ | refine natZ_eql (fun h => ?_) (fun h => ?_) | refine natZ_neq_t (by first | assumption | omega) ?_ | refine natZ_neq_f (by first | assumption | omega) ?_ | refine natZ_neq (fun h => ?_) (fun h => ?_) | refine natZ_lss_t (by first | assumption | omega) ?_ | refine natZ_lss_f (by first | assumption | omega) ?_ | refine natZ_lss (fun h => ?_) (fun h => ?_) | refine natZ_leq_t (by first | assumption | omega) ?_ | refine natZ_leq_f (by first | assumption | omega) ?_ | refine natZ_leq (fun h => ?_) (fun h => ?_) | refine natZ_gtr_t (by first | assumption | omega) ?_ | refine natZ_gtr_f (by first | assumption | omega) ?_ | refine natZ_gtr (fun h => ?_) (fun h => ?_) | refine natZ_geq_t (by first | assumption | omega) ?_ | refine natZ_geq_f (by first | assumption | omega) ?_ | refine natZ_geq (fun h => ?_) (fun h => ?_) | refine natZ_quo (by omega) ?_ | refine br_true (by assumption) ?_ | refine br_false (by assumption) ?_ | fail) | (first | ((conv => lhs; whnf); first | ((conv => lhs; arg 1; whnf); refine valK_ok ?_) | refine forceB_ok ?_ | refine forceN_add ?_ | refine forceN_sub ?_ | refine forceN_suc ?_ | refine forceN_part ?_ | refine forceN_byte ?_ | refine forceN_ok ?_ | refine forceZ_add ?_ | refine forceZ_mul (by (try simp only [maxK]); omega) ?_ | refine forceZ_sub ?_ | refine forceZ_ok ?_ | refine rowAt_ok (byteRows_get (by (try simp only [maxK]); omega)) ?_ | (apply rowAt_ok; (focus assumption)) | refine br_true (Nat.beq_refl _) ?_ | refine br_true (by assumption) ?_ | refine br_false (by assumption) ?_ | refine br_max (by (try simp only [maxK]); omega) ?_ | refine br_ble_t (by (try simp only [maxK]); omega) ?_ | refine br_ble_f (by (try simp only [maxK]); omega) ?_ | refine br_beq_f (by (try simp only [maxK]); omega) ?_ | refine br_true (by simp only [Bool.and_eq_true, Nat.ble_eq]; (try simp only []); omega) ?_ | (refine br_ble (fun h => ?_) (fun h => ?_) <;> (try simp only [] at h)) | (refine br_beq (fun h => ?_) (fun h => ?_) <;> (try simp only [] at h)) | refine br_split (fun h => ?_) (fun h => ?_) | fail) | ((conv => lhs; whnf); first | refine acc4_upd_ok (by omega) ?_ | refine acc4_get_same (by omega) ?_ | refine acc4_get_other (by omega) (by omega) (by omega) ?_ | refine acc4_get_ok (by omega) (by assumption) ?_ | refine opt3_split (fun h => ?_) (fun kind num tl h => ?_) | refine int_split (fun a h => ?_) (fun a h => ?_) | fail)))
  all_goals (try (conv => lhs; whnf))
  all_goals refine okIf_ok (frz_int ?_)
  all_goals (unfold viewM; repeat' split)
  all_goals first
  | rfl
  | omega
set_option maxHeartbeats 8000000 in
theorem view_says (a b : Int) : Says ρ Try.prog 10 [.int .i64 a, .int .i64 b] (.tup [.int .i64 (viewM a b), .bool (decide (0 < viewM a b))]) := by
  refine says_run (call := call0) follows globL_ok call0_ok (arg2 rfl rfl) ?_
  repeat' (first | ((conv => lhs; whnf); first | refine natZ_nat ?_ | refine forceN_mod ?_ | refine forceN_div ?_ | refine natZ_eql_t (by first | assumption | omega) ?_ | refine natZ_eql_f (by first | assumption | omega) ?_ | refine natZ_eql (fun h => ?_) (fun h => ?_) | refine natZ_neq_t (by first | assumption | omega) ?_ | refine natZ_neq_f (by first | assumption | omega) ?_ | refine natZ_neq (fun h => ?_) (fun h => ?_) | refine natZ_lss_t (by first | assumption | omega) ?_ | refine natZ_lss_f (by first | assumption | omega) ?_ | refine natZ_lss (fun h => ?_) (fun h => ?_) | refine natZ_leq_t (by first | assumption | omega) ?_ | refine natZ_leq_f (by first | assumption | omega) ?_ | refine natZ_leq (fun h => ?_) (fun h => ?_) | refine natZ_gtr_t (by first | assumption | omega) ?_ | refine natZ_gtr_f (by first | assumption | omega) ?_ | refine natZ_gtr (fun h => ?_) (fun h => ?_) | refine natZ_geq_t (by first | assumption | omega) ?_ | refine natZ_geq_f (by first | assumption | omega) ?_ | refine natZ_geq (fun h => ?_) (fun h => ?_) | refine natZ_quo (by omega) ?_ | refine br_true (by assumption) ?_ | refine br_false (by assumption) ?_ | fail) | (first | ((conv => lhs; whnf); first | ((conv => lhs; arg 1; whnf); refine valK_ok ?_) | refine forceB_ok ?_ | refine forceN_add ?_ | refine forceN_sub ?_ | refine forceN_suc ?_ | refine forceN_part ?_ | refine forceN_byte ?_ | refine forceN_ok ?_ | refine forceZ_add ?_ | refine forceZ_mul (by (try simp only [maxK]); omega) ?_ | refine forceZ_sub ?_ | refine forceZ_ok ?_ | refine rowAt_ok (byteRows_get (by (try simp only [maxK]); omega)) ?_ | (apply rowAt_ok; (focus assumption)) | refine br_true (Nat.beq_refl _) ?_ | refine br_true (by assumption) ?_ | refine br_false (by assumption) ?_ | refine br_max (by (try simp only [maxK]); omega) ?_ | refine br_ble_t (by (try simp only [maxK]); omega) ?_ | refine br_ble_f (by (try simp only [maxK]); omega) ?_ | refine br_beq_f (by (try simp only [maxK]); omega) ?_ | refine br_true (by simp only [Bool.and_eq_true, Nat.ble_eq]; (try simp only []); omega) ?_ | (refine br_ble (fun h => ?_) (fun h => ?_) <;> (try simp only [] at h)) | (refine br_beq (fun h => ?_) (fun h => ?_) <;> (try simp only [] at h)) | refine br_split (fun h => ?_) (fun h => ?_) | fail) | ((conv => lhs; whnf); first | refine acc4_upd_ok (by omega) ?_ | refine acc4_get_same (by omega) ?_ | refine acc4_get_other (by omega) (by omega) (by omega) ?_ | refine acc4_get_ok (by omega) (by assumption) ?_ | refine opt3_split (fun h => ?_) (fun kind num tl h => ?_) | refine int_split (fun a h => ?_) (fun a h => ?_) | fail)))
  all_goals (try (conv => lhs; whnf))
  all_goals refine okIf_ok (frz_cons (frz_int ?_) (frz_cons (frz_bool ?_) frz_nil))
  all_goals (unfold viewM; repeat' split)
  all_goals first
  | rfl
  | omega
  | exact (decide_eq_true (by omega)).symm
  | exact (decide_eq_false (by omega)).symm

theorem wakes_says : Says ρ Try.prog 14 [] (.bool true) := says_true follows globL_ok 9 (by decide +kernel)

end Go.Proofs.Ytmjmadcecbihbaa.M

/- CapsTells: both sides say the same. -/
namespace Go.Proofs.Ytmjmadcecbihbaa.M
open Go
set_option linter.unusedSimpArgs false
set_option linter.unusedVariables false
variable {ρ : Nat → Value}

def quoZ (n : Int) (b : Nat) : Int := IntKind.i64.wrap (n.tdiv (.ofNat b))
def ofK (n : Int) : Int := .ofNat (withinN n 8 % 6)
def ofC (n : Int) : Int := .ofNat (withinN (quoZ n 8) 5)
def ofR (n : Int) : Int := .ofNat (withinN (quoZ n 64) 3) - 1

theorem ofR_pos {w : Nat} (h : 1 ≤ w) : Int.ofNat (w - 1) = Int.ofNat w - 1 := by
  show ((w - 1 : Nat) : Int) = (w : Int) - 1
  omega

attribute [local irreducible] forceN forceZ forceB okIf roundsK valK rowAt
attribute [local irreducible] acc4 get4 put4 natZ withinN
set_option maxRecDepth 100000

set_option maxHeartbeats 4000000 in
theorem of_says (n : Int) : Says ρ Try.prog 4 [.int .i64 n] (tyV (ofK n) (ofC n) (ofR n) 0 0 none 0 0) := by
  refine says_run (call := over 9 ovWithin call0) follows globL_ok (over_ok ovWithin_ok call0_ok) (arg1 rfl) ?_
  have h6 := Nat.mod_lt (withinN n 8) (show 0 < 6 by omega)
  repeat' (first | ((conv => lhs; whnf); first | refine natZ_nat ?_ | refine forceN_mod ?_ | refine forceN_div ?_ | refine natZ_eql_t (by first | assumption | omega) ?_ | refine natZ_eql_f (by first | assumption | omega) ?_ | refine natZ_eql (fun h => ?_) (fun h => ?_) | refine natZ_neq_t (by first | assumption | omega) ?_ | refine natZ_neq_f (by first | assumption | omega) ?_ | refine natZ_neq (fun h => ?_) (fun h => ?_) | refine natZ_lss_t (by first | assumption | omega) ?_ | refine natZ_lss_f (by first | assumption | omega) ?_ | refine natZ_lss (fun h => ?_) (fun h => ?_) | refine natZ_leq_t (by first | assumption | omega) ?_ | refine natZ_leq_f (by first | assumption | omega) ?_ | refine natZ_leq (fun h => ?_) (fun h => ?_) | refine natZ_gtr_t (by first | assumption | omega) ?_ | refine natZ_gtr_f (by first | assumption | omega) ?_ | refine natZ_gtr (fun h => ?_) (fun h => ?_) | refine natZ_geq_t (by first | assumption | omega) ?_ | refine natZ_geq_f (by first | assumption | omega) ?_ | refine natZ_geq (fun h => ?_) (fun h => ?_) | refine natZ_quo (b := 8) rfl (by omega) ?_ | refine natZ_quo (b := 64) rfl (by omega) ?_ | refine br_true (by assumption) ?_ | refine br_false (by assumption) ?_ | fail) | (first | ((conv => lhs; whnf); first | ((conv => lhs; arg 1; whnf); refine valK_ok ?_) | refine forceB_ok ?_ | refine forceN_add ?_ | refine forceN_sub ?_ | refine forceN_suc ?_ | refine forceN_part ?_ | refine forceN_byte ?_ | refine forceN_ok ?_ | refine forceZ_add ?_ | refine forceZ_mul (by (try simp only [maxK]); omega) ?_ | refine forceZ_sub ?_ | refine forceZ_ok ?_ | refine rowAt_ok (byteRows_get (by (try simp only [maxK]); omega)) ?_ | (apply rowAt_ok; (focus assumption)) | refine br_true (Nat.beq_refl _) ?_ | refine br_true (by assumption) ?_ | refine br_false (by assumption) ?_ | refine br_max (by (try simp only [maxK]); omega) ?_ | refine br_ble_t (by (try simp only [maxK]); omega) ?_ | refine br_ble_f (by (try simp only [maxK]); omega) ?_ | refine br_beq_f (by (try simp only [maxK]); omega) ?_ | refine br_true (by simp only [Bool.and_eq_true, Nat.ble_eq]; (try simp only []); omega) ?_ | (refine br_ble (fun h => ?_) (fun h => ?_) <;> (try simp only [] at h)) | (refine br_beq (fun h => ?_) (fun h => ?_) <;> (try simp only [] at h)) | refine br_split (fun h => ?_) (fun h => ?_) | fail) | ((conv => lhs; whnf); first | refine acc4_upd_ok (by omega) ?_ | refine acc4_get_same (by omega) ?_ | refine acc4_get_other (by omega) (by omega) (by omega) ?_ | refine acc4_get_ok (by omega) (by assumption) ?_ | refine opt3_split (fun h => ?_) (fun kind num tl h => ?_) | refine int_split (fun a h => ?_) (fun a h => ?_) | fail)))
  all_goals (try (conv => lhs; whnf))
  all_goals refine okIf_ok (frz_agg (frz_cons (frz_int ?_) (frz_cons (frz_int ?_) (frz_cons (frz_int ?_) (frz_cons (frz_ps rfl rfl) (frz_cons (.flat (.sc (.slice none 0 0)) rfl) frz_nil))))))
  all_goals first
  | rfl
  | skip
  all_goals (
    have hw := withinN_lt (IntKind.i64.wrap (n.tdiv 64)) (b := 3) (by omega) (by omega)
    show _ = Int.ofNat (withinN (IntKind.i64.wrap (n.tdiv 64)) 3) - 1
    generalize withinN (IntKind.i64.wrap (n.tdiv 64)) 3 = w at *
    first
    | exact ofR_pos (by assumption)
    | (exfalso; simp only [maxK] at *; omega)
    | (have h0 : w = 0 := by omega
       subst h0
       decide))

noncomputable def ovTyR (f : Int → Int → Bool) : OvT := ovRaw fun
  | [.agg [.int .i64 a, .int .i64 b, .int .i64 c, .ps l n, .sc (.slice p s t)]] => some (.bool (f a b))
  | _ => none
theorem ovTyR_ok {g : FuncId} {f : Int → Int → Bool} (hs : ∀ a b c l n p s t, Says ρ Try.prog g [tyV a b c l n p s t] (.bool (f a b))) : OvOK ρ Try.prog g (ovTyR f) := ov_raw fun args v h => by
  split at h
  · cases h; exact hs _ _ _ _ _ _ _ _
  · cases h
noncomputable def ovFits : OvT := ovRaw fun
  | [.agg [.int .i64 a, .int .i64 b, .int .i64 c, .ps l n, .sc (.slice p s t)], .agg [.int .i64 a', .int .i64 b', .int .i64 c', .ps l' n', .sc (.slice p' s' t')], .bool m] => some (.bool (fitsM a b c a' b' c' m))
  | _ => none
theorem ovFits_ok {g : FuncId} (hs : ∀ a b c a' b' c' m l n l' n' p p' s t s' t', Says ρ Try.prog g [tyV a b c l n p s t, tyV a' b' c' l' n' p' s' t', .bool m] (.bool (fitsM a b c a' b' c' m))) : OvOK ρ Try.prog g ovFits := ov_raw fun args v h => by
  split at h
  · cases h; exact hs _ _ _ _ _ _ _ _ _ _ _ _ _ _ _ _ _
  · cases h
noncomputable def ovI (f : Int → V) : OvT := ovRaw fun
  | [.int .i64 a] => some (f a)
  | _ => none
theorem ovI_ok {g : FuncId} {f : Int → V} (hs : ∀ a, Says ρ Try.prog g [.int .i64 a] (f a)) : OvOK ρ Try.prog g (ovI f) := ov_raw fun args v h => by
  split at h
  · cases h; exact hs _
  · cases h
noncomputable def ovII (f : Int → Int → V) : OvT := ovRaw fun
  | [.int .i64 a, .int .i64 b] => some (f a b)
  | _ => none
theorem ovII_ok {g : FuncId} {f : Int → Int → V} (hs : ∀ a b, Says ρ Try.prog g [.int .i64 a, .int .i64 b] (f a b)) : OvOK ρ Try.prog g (ovII f) := ov_raw fun args v h => by
  split at h
  · cases h; exact hs _ _
  · cases h
noncomputable def ovWakes : OvT := ovRaw fun
  | [] => some (.bool true)
  | _ => none
theorem ovWakes_ok : OvOK ρ Try.prog 14 ovWakes := ov_raw fun args v h => by
  split at h
  · cases h; exact wakes_says
  · cases h

attribute [local irreducible] sendM fitsM viewM writeM ofK ofC ofR

theorem args_caps {q r : V} {m n x y : Int} {b : Bool} (hq : Arg2 [] q q) (hr : Arg2 [] r r) : ∀ z ∈ [q, r, V.int .i64 m, V.int .i64 n, V.int .i64 x, V.int .i64 y, V.bool b], Arg2 [] z z := fun z hz => by
  simp at hz
  rcases hz with rfl | rfl | rfl | rfl | rfl | rfl | rfl
  · exact hq
  · exact hr
  all_goals exact .flat _ rfl

set_option maxHeartbeats 16000000 in
theorem capsTells_says (a b c a' b' c' m n x y : Int) (mv : Bool) (l k l' k' : Nat) (p p' : Option Addr) (s t s' t' : Nat) :
    Says ρ Try.prog 3 [tyV a b c l k p s t, tyV a' b' c' l' k' p' s' t', .int .i64 m, .int .i64 n, .int .i64 x, .int .i64 y, .bool mv] (.bool true) := by
  refine says_run (call := over 4 (ovI fun n => tyV (ofK n) (ofC n) (ofR n) 0 0 none 0 0) (over 5 (ovTyR sendM) (over 6 (ovTyR sendM) (over 7 ovFits (over 8 ovFits (over 9 ovWithin
    (over 10 (ovII fun a b => .tup [.int .i64 (viewM a b), .bool (decide (0 < viewM a b))]) (over 11 (ovII fun a b => .int .i64 (viewM a b)) (over 12 (ovI fun a => .bool (writeM a)) (over 13 (ovI fun a => .bool (writeM a)) (over 14 ovWakes call0)))))))))))
    follows globL_ok (over_ok (ovI_ok of_says) (over_ok (ovTyR_ok send_says) (over_ok (ovTyR_ok rsend_says) (over_ok (ovFits_ok fits_says) (over_ok (ovFits_ok rfits_says) (over_ok ovWithin_ok (over_ok (ovII_ok view_says) (over_ok (ovII_ok rview_says) (over_ok (ovI_ok write_says) (over_ok (ovI_ok rwrite_says) (over_ok ovWakes_ok call0_ok)))))))))))
    (args_caps arg_ty arg_ty) ?_
  repeat' (first | ((conv => lhs; whnf); refine forceB_as false (by simp only [beq_self_eq_true, Bool.not_true]) ?_) | ((conv => lhs; whnf); refine natZ_nat ?_) | ((conv => lhs; whnf); refine natZ_gtr_raw ?_) | ((conv => lhs; whnf); refine unroll (by unfold rounds0; omega) ?_) | (first | ((conv => lhs; whnf); first | refine natZ_nat ?_ | refine forceN_mod ?_ | refine forceN_div ?_ | refine natZ_eql_t (by first | assumption | omega) ?_ | refine natZ_eql_f (by first | assumption | omega) ?_ | refine natZ_eql (fun h => ?_) (fun h => ?_) | refine natZ_neq_t (by first | assumption | omega) ?_ | refine natZ_neq_f (by first | assumption | omega) ?_ | refine natZ_neq (fun h => ?_) (fun h => ?_) | refine natZ_lss_t (by first | assumption | omega) ?_ | refine natZ_lss_f (by first | assumption | omega) ?_ | refine natZ_lss (fun h => ?_) (fun h => ?_) | refine natZ_leq_t (by first | assumption | omega) ?_ | refine natZ_leq_f (by first | assumption | omega) ?_ | refine natZ_leq (fun h => ?_) (fun h => ?_) | refine natZ_gtr_t (by first | assumption | omega) ?_ | refine natZ_gtr_f (by first | assumption | omega) ?_ | refine natZ_gtr (fun h => ?_) (fun h => ?_) | refine natZ_geq_t (by first | assumption | omega) ?_ | refine natZ_geq_f (by first | assumption | omega) ?_ | refine natZ_geq (fun h => ?_) (fun h => ?_) | refine natZ_quo (b := 8) rfl (by omega) ?_ | refine natZ_quo (b := 64) rfl (by omega) ?_ | refine br_true (by assumption) ?_ | refine br_false (by assumption) ?_ | fail) | (first | ((conv => lhs; whnf); first | ((conv => lhs; arg 1; whnf); refine valK_ok ?_) | refine forceB_ok ?_ | refine forceN_add ?_ | refine forceN_sub ?_ | refine forceN_suc ?_ | refine forceN_part ?_ | refine forceN_byte ?_ | refine forceN_ok ?_ | refine forceZ_add ?_ | refine forceZ_mul (by (try simp only [maxK]); omega) ?_ | refine forceZ_sub ?_ | refine forceZ_ok ?_ | refine rowAt_ok (byteRows_get (by (try simp only [maxK]); omega)) ?_ | (apply rowAt_ok; (focus assumption)) | refine br_true (Nat.beq_refl _) ?_ | refine br_true (by assumption) ?_ | refine br_false (by assumption) ?_ | refine br_max (by (try simp only [maxK]); omega) ?_ | refine br_ble_t (by (try simp only [maxK]); omega) ?_ | refine br_ble_f (by (try simp only [maxK]); omega) ?_ | refine br_beq_f (by (try simp only [maxK]); omega) ?_ | refine br_true (by simp only [Bool.and_eq_true, Nat.ble_eq]; (try simp only []); omega) ?_ | (refine br_ble (fun h => ?_) (fun h => ?_) <;> (try simp only [] at h)) | (refine br_beq (fun h => ?_) (fun h => ?_) <;> (try simp only [] at h)) | refine br_split (fun h => ?_) (fun h => ?_) | fail) | ((conv => lhs; whnf); first | refine acc4_upd_ok (by omega) ?_ | refine acc4_get_same (by omega) ?_ | refine acc4_get_other (by omega) (by omega) (by omega) ?_ | refine acc4_get_ok (by omega) (by assumption) ?_ | refine opt3_split (fun h => ?_) (fun kind num tl h => ?_) | refine int_split (fun a h => ?_) (fun a h => ?_) | fail))))
  all_goals (try (conv => lhs; whnf))
  all_goals exact okIf_ok (frz_bool rfl)

end Go.Proofs.Ytmjmadcecbihbaa.M
