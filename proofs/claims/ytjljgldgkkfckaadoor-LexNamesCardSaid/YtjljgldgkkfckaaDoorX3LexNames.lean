/- Texts of this claim, one behind the other. -/
import Derived.Test.YtjljgldgkkfckaaDoorX2LexNames
import Derived.Test.YtjljgldgkkfckaaDoorProg
import Derived.KernelRfl
import Derived.Laws.StandIn
/- What the lexers reckon, on bytes packed into numbers. -/
namespace Go.Proofs.YtjljgldgkkfckaaDoor.M
open Go

def letterB (c : Nat) : Bool := Nat.ble 97 c && Nat.ble c 122
def digitB (c : Nat) : Bool := Nat.ble 48 c && Nat.ble c 57
def innerB (c : Nat) : Bool := letterB c || digitB c || Nat.beq c 95
def lineB (c : Nat) : Bool := !Nat.beq c 10

/-- How many of the first bytes are of a kind. -/
def runP (p : Nat → Bool) : Nat → Nat → Nat
  | 0, _ => 0
  | l + 1, n => match p (n % 256) with
    | true => runP p l (n / 256) + 1
    | false => 0

theorem runP_le (p : Nat → Bool) : ∀ l n, runP p l n ≤ l
  | 0, _ => Nat.le_refl _
  | l + 1, n => by
    unfold runP
    split
    · have := runP_le p l (n / 256); omega
    · omega

/-- Behind so many of them. -/
theorem runP_step {p : Nat → Bool} : ∀ {i l n : Nat}, i < l → i + runP p (l - i) (n / 256 ^ i) = (match p (n / 256 ^ i % 256) with | true => i + 1 + runP p (l - (i + 1)) (n / 256 ^ (i + 1)) | false => i) := by
  intro i l n h
  obtain ⟨m, hm⟩ : ∃ m, l - i = m + 1 := ⟨l - i - 1, by omega⟩
  rw [hm, show l - (i + 1) = m by omega]
  rw [Nat.pow_succ, ← Nat.div_div_eq_div_mul]
  show i + (match p (n / 256 ^ i % 256) with | true => runP p m (n / 256 ^ i / 256) + 1 | false => 0) = _
  cases p (n / 256 ^ i % 256) with
  | true => show i + (runP p m (n / 256 ^ i / 256) + 1) = i + 1 + runP p m (n / 256 ^ i / 256); omega
  | false => rfl

/-- Behind all that parts tokens. -/
def blanksF : Nat → Nat → Nat → Nat → Nat → Nat × Nat × Nat × Nat
  | 0, l, n, line, col => (l, n, line, col)
  | f + 1, l, n, line, col => match Nat.beq l 0 with
    | true => (l, n, line, col)
    | false => match Nat.beq (n % 256) 32 || Nat.beq (n % 256) 9 with
      | true => blanksF f (l - 1) (n / 256) line (col + 1)
      | false => match Nat.beq (n % 256) 10 with
        | true => blanksF f (l - 1) (n / 256) (line + 1) 1
        | false => match Nat.beq (n % 256) 35 with
          | true => blanksF f (l - runP lineB l n) (n / 256 ^ runP lineB l n) line (col + runP lineB l n)
          | false => (l, n, line, col)

theorem blanks_blank {f l n line col : Nat} (h : 0 < l) (hb : n % 256 = 32 ∨ n % 256 = 9) : blanksF (f + 1) l n line col = blanksF f (l - 1) (n / 256) line (col + 1) := by
  have h1 : Nat.beq l 0 = false := beq_false_iff.mpr (by omega)
  have h2 : (Nat.beq (n % 256) 32 || Nat.beq (n % 256) 9) = true := by rw [Bool.or_eq_true, Nat.beq_eq, Nat.beq_eq]; exact hb
  simp only [blanksF, h1, h2]
theorem blanks_line {f l n line col : Nat} (h : 0 < l) (hb : n % 256 = 10) : blanksF (f + 1) l n line col = blanksF f (l - 1) (n / 256) (line + 1) 1 := by
  have h1 : Nat.beq l 0 = false := beq_false_iff.mpr (by omega)
  simp only [blanksF, h1, hb, Nat.beq_refl]
  rfl
theorem blanks_word {f l n line col : Nat} (h : 0 < l) (hb : n % 256 = 35) : blanksF (f + 1) l n line col = blanksF f (l - runP lineB l n) (n / 256 ^ runP lineB l n) line (col + runP lineB l n) := by
  have h1 : Nat.beq l 0 = false := beq_false_iff.mpr (by omega)
  simp only [blanksF, h1, hb]
  rfl
theorem blanks_end {f l n line col : Nat} (hb : l = 0 ∨ n % 256 ≠ 32 ∧ n % 256 ≠ 9 ∧ n % 256 ≠ 10 ∧ n % 256 ≠ 35) : blanksF f l n line col = (l, n, line, col) := by
  cases f with
  | zero => rfl
  | succ f =>
    rcases hb with rfl | ⟨h1, h2, h3, h4⟩
    · rfl
    · cases e : Nat.beq l 0 with
      | true => simp only [blanksF, e]
      | false =>
        have e1 := beq_false_iff.mpr h1
        have e2 := beq_false_iff.mpr h2
        have e3 := beq_false_iff.mpr h3
        have e4 := beq_false_iff.mpr h4
        simp only [blanksF, e, e1, e2, e3, e4, Bool.or_self]

theorem runP_all {p : Nat → Bool} : ∀ {len n i : Nat}, runP p len n = len → i < len → p (n / 256 ^ i % 256) = true
  | 0, _, _, _, h => by omega
  | len + 1, n, i, hr, hi => by
    simp only [runP] at hr
    cases e : p (n % 256) with
    | false => rw [e] at hr; simp at hr
    | true =>
      rw [e] at hr
      simp only at hr
      cases i with
      | zero => simpa using e
      | succ i =>
        have := runP_all (p := p) (len := len) (n := n / 256) (i := i) (by omega) (by omega)
        rw [Nat.div_div_eq_div_mul, Nat.mul_comm, ← Nat.pow_succ] at this
        exact this

/-- What digits are, behind a number. -/
def numP : Nat → Nat → Nat → Nat
  | 0, _, a => a
  | l + 1, n, a => numP l (n / 256) (a * 10 + (n % 256 - 48))

theorem numP_step {i l n a : Nat} (h : i < l) : numP (l - i) (n / 256 ^ i) a = numP (l - (i + 1)) (n / 256 ^ (i + 1)) (a * 10 + (n / 256 ^ i % 256 - 48)) := by
  obtain ⟨m, hm⟩ : ∃ m, l - i = m + 1 := ⟨l - i - 1, by omega⟩
  rw [hm, show l - (i + 1) = m by omega, Nat.pow_succ, ← Nat.div_div_eq_div_mul]
  rfl

theorem mod_mod256 {n k : Nat} (h : 0 < k) : n % 256 ^ k % 256 = n % 256 := by
  obtain ⟨j, rfl⟩ : ∃ j, k = j + 1 := ⟨k - 1, by omega⟩
  rw [Nat.pow_succ, Nat.mul_comm]
  exact Nat.mod_mul_right_mod n 256 (256 ^ j)
theorem mod_div256 {n k : Nat} : n % 256 ^ (k + 1) / 256 = n / 256 % 256 ^ k := by
  rw [Nat.pow_succ, Nat.mul_comm]
  exact Nat.mod_mul_right_div_self n 256 (256 ^ k)

theorem runP_mod {p : Nat → Bool} : ∀ {l k n : Nat}, l ≤ k → runP p l (n % 256 ^ k) = runP p l n
  | 0, _, _, _ => rfl
  | l + 1, k, n, h => by
    obtain ⟨j, rfl⟩ : ∃ j, k = j + 1 := ⟨k - 1, by omega⟩
    simp only [runP, mod_mod256 (show 0 < j + 1 by omega), mod_div256, runP_mod (show l ≤ j by omega)]

/-- So many of the first ones are of a kind: of so many, all. -/
theorem runP_self {p : Nat → Bool} : ∀ {l n : Nat}, runP p (runP p l n) n = runP p l n
  | 0, _ => rfl
  | l + 1, n => by
    cases e : p (n % 256) with
    | false => simp [runP, e]
    | true => simp [runP, e, runP_self (l := l) (n := n / 256)]

/-- Is a byte a sign? -/
def signB (c : Nat) : Bool := match c with
  | 40 | 41 | 123 | 125 | 91 | 93 | 44 | 59 | 58 | 61 | 46 | 43 | 45 | 42 | 60 | 94 | 33 | 63 => true
  | _ => false

/-- The token at the beginning: its kind, its number, how long it is. -/
def tokM (len n : Nat) : Option (Nat × Nat × Nat) :=
  match Nat.beq len 0 with
  | true => some (4, 0, 0)
  | false => match letterB (n % 256) with
    | true => match Nat.ble (runP innerB len n) 16 with
      | true => some (1, 0, runP innerB len n)
      | false => none
    | false => match digitB (n % 256) with
      | true => match Nat.ble (runP digitB len n) 9 && !(Nat.beq (n % 256) 48 && Nat.ble 2 (runP digitB len n)) with
        | true => some (2, numP (runP digitB len n) (n % 256 ^ runP digitB len n) 0, runP digitB len n)
        | false => none
      | false => match signB (n % 256) with
        | true => some (3, 0, 1)
        | false => none

theorem tok_word {len n : Nat} (h0 : 0 < len) (h1 : letterB (n % 256) = true) (h2 : runP innerB len n ≤ 16) : tokM len n = some (1, 0, runP innerB len n) := by
  simp only [tokM, beq_false_iff.mpr (show len ≠ 0 by omega), h1, Nat.ble_eq_true_of_le h2]
theorem tok_wordNo {len n : Nat} (h0 : 0 < len) (h1 : letterB (n % 256) = true) (h2 : 16 < runP innerB len n) : tokM len n = none := by
  simp only [tokM, beq_false_iff.mpr (show len ≠ 0 by omega), h1, ble_false_iff.mpr h2]
theorem tok_num {len n : Nat} (h0 : 0 < len) (h1 : letterB (n % 256) = false) (h2 : digitB (n % 256) = true) (h3 : runP digitB len n ≤ 9) (h4 : n % 256 ≠ 48 ∨ runP digitB len n ≤ 1) :
    tokM len n = some (2, numP (runP digitB len n) (n % 256 ^ runP digitB len n) 0, runP digitB len n) := by
  have h5 : (Nat.beq (n % 256) 48 && Nat.ble 2 (runP digitB len n)) = false := by
    rcases h4 with h | h
    · rw [beq_false_iff.mpr h, Bool.false_and]
    · rw [ble_false_iff.mpr (show runP digitB len n < 2 by omega), Bool.and_false]
  simp only [tokM, beq_false_iff.mpr (show len ≠ 0 by omega), h1, h2, Nat.ble_eq_true_of_le h3, h5, Bool.not_false, Bool.and_self]
theorem tok_numNo {len n : Nat} (h0 : 0 < len) (h1 : letterB (n % 256) = false) (h2 : digitB (n % 256) = true) (h3 : 9 < runP digitB len n ∨ n % 256 = 48 ∧ 1 < runP digitB len n) : tokM len n = none := by
  have h5 : (Nat.ble (runP digitB len n) 9 && !(Nat.beq (n % 256) 48 && Nat.ble 2 (runP digitB len n))) = false := by
    rcases h3 with h | ⟨h, h'⟩
    · rw [ble_false_iff.mpr h, Bool.false_and]
    · rw [h, Nat.ble_eq_true_of_le (show 2 ≤ runP digitB len n by omega), Nat.beq_refl, Bool.and_self, Bool.not_true, Bool.and_false]
  simp only [tokM, beq_false_iff.mpr (show len ≠ 0 by omega), h1, h2, h5]
theorem tok_sign {len n : Nat} (h0 : 0 < len) (h1 : letterB (n % 256) = false) (h2 : digitB (n % 256) = false) (h3 : signB (n % 256) = true) : tokM len n = some (3, 0, 1) := by
  simp only [tokM, beq_false_iff.mpr (show len ≠ 0 by omega), h1, h2, h3]
theorem tok_none {len n : Nat} (h0 : 0 < len) (h1 : letterB (n % 256) = false) (h2 : digitB (n % 256) = false) (h3 : signB (n % 256) = false) : tokM len n = none := by
  simp only [tokM, beq_false_iff.mpr (show len ≠ 0 by omega), h1, h2, h3]

theorem runP_pos {p : Nat → Bool} {l n : Nat} (h : 0 < l) (hp : p (n % 256) = true) : 0 < runP p l n := by
  cases l with
  | zero => omega
  | succ l => simp only [runP, hp]; omega

theorem blanksF_facts : ∀ {f l n line col : Nat}, n < 256 ^ l → (blanksF f l n line col).1 ≤ l ∧ (blanksF f l n line col).2.1 < 256 ^ (blanksF f l n line col).1 ∧
    (blanksF f l n line col).2.2.1 + (blanksF f l n line col).1 ≤ line + l ∧ (blanksF f l n line col).2.2.2 + (blanksF f l n line col).1 ≤ col + l
  | 0, l, n, line, col, h => ⟨Nat.le_refl _, h, Nat.le_refl _, Nat.le_refl _⟩
  | f + 1, l, n, line, col, h => by
    by_cases h0 : l = 0
    · rw [blanks_end (.inl h0)]; exact ⟨Nat.le_refl _, h, Nat.le_refl _, Nat.le_refl _⟩
    have hd : n / 256 < 256 ^ (l - 1) := by have := part_lt (k := 1) h (by omega); rwa [Nat.pow_one] at this
    by_cases h1 : n % 256 = 32 ∨ n % 256 = 9
    · rw [blanks_blank (by omega) h1]
      have := blanksF_facts (f := f) (line := line) (col := col + 1) hd
      exact ⟨by omega, this.2.1, by omega, by omega⟩
    by_cases h2 : n % 256 = 10
    · rw [blanks_line (by omega) h2]
      have := blanksF_facts (f := f) (line := line + 1) (col := 1) hd
      exact ⟨by omega, this.2.1, by omega, by omega⟩
    by_cases h3 : n % 256 = 35
    · rw [blanks_word (by omega) h3]
      have hk := runP_le lineB l n
      have := blanksF_facts (f := f) (line := line) (col := col + runP lineB l n) (part_lt h hk)
      exact ⟨by omega, this.2.1, by omega, by omega⟩
    · rw [blanks_end (.inr ⟨by omega, by omega, h2, h3⟩)]; exact ⟨Nat.le_refl _, h, Nat.le_refl _, Nat.le_refl _⟩

theorem tokM_facts {l n kind num tl : Nat} (h : tokM l n = some (kind, num, tl)) : tl ≤ l ∧ (kind = 4 ∧ l = 0 ∧ num = 0 ∧ tl = 0 ∨ kind ≠ 4 ∧ 1 ≤ tl) := by
  by_cases h0 : l = 0
  · subst h0
    simp only [tokM, Option.some.injEq, Prod.mk.injEq] at h
    obtain ⟨rfl, rfl, rfl⟩ := h
    exact ⟨by omega, .inl ⟨rfl, rfl, rfl, rfl⟩⟩
  cases h1 : letterB (n % 256) with
  | true =>
    have hp : 0 < runP innerB l n := runP_pos (by omega) (by unfold innerB; rw [h1]; rfl)
    have hle := runP_le innerB l n
    by_cases h2 : runP innerB l n ≤ 16
    · rw [tok_word (by omega) h1 h2] at h
      cases h
      exact ⟨hle, .inr ⟨by omega, hp⟩⟩
    · rw [tok_wordNo (by omega) h1 (by omega)] at h
      cases h
  | false =>
    cases h2 : digitB (n % 256) with
    | true =>
      have hp : 0 < runP digitB l n := runP_pos (by omega) h2
      have hle := runP_le digitB l n
      by_cases h3 : 9 < runP digitB l n ∨ n % 256 = 48 ∧ 1 < runP digitB l n
      · rw [tok_numNo (by omega) h1 h2 h3] at h
        cases h
      · rw [tok_num (by omega) h1 h2 (by omega) (by omega)] at h
        cases h
        exact ⟨hle, .inr ⟨by omega, hp⟩⟩
    | false =>
      cases h3 : signB (n % 256) with
      | true =>
        rw [tok_sign (by omega) h1 h2 h3] at h
        cases h
        exact ⟨by omega, .inr ⟨by omega, by omega⟩⟩
      | false =>
        rw [tok_none (by omega) h1 h2 h3] at h
        cases h

structure Tok where
  kind : Nat
  num : Nat
  line : Nat
  col : Nat
  len : Nat
  text : Nat

/-- A token's cells. -/
def Tok.row (t : Tok) : List V := [.int .i64 (.ofNat t.kind), .int .i64 (.ofNat t.num), .int .i64 (.ofNat t.line), .int .i64 (.ofNat t.col), .ps t.len t.text]

inductive LexR where
  | ok (l : List Tok)
  | bad (line col : Nat)

def LexR.pre (a : List Tok) : LexR → LexR
  | .ok l => .ok (a ++ l)
  | .bad x y => .bad x y

theorem LexR.pre_nil (r : LexR) : r.pre [] = r := by cases r <;> rfl
theorem LexR.pre_pre (a b : List Tok) (r : LexR) : (r.pre b).pre a = r.pre (a ++ b) := by cases r <;> simp [LexR.pre]

/-- All tokens of a text. -/
def toksF : Nat → Nat → Nat → Nat → Nat → LexR
  | 0, _, _, _, _ => .bad 0 0
  | f + 1, l, n, line, col => match blanksF l l n line col with
    | (l1, n1, line1, col1) => match tokM l1 n1 with
      | none => .bad line1 col1
      | some (kind, num, tl) => match Nat.beq kind 4 with
        | true => .ok [⟨4, 0, line1, col1, 0, 0⟩]
        | false => (toksF f (l1 - tl) (n1 / 256 ^ tl) line1 (col1 + tl)).pre [⟨kind, num, line1, col1, tl, n1 % 256 ^ tl⟩]

theorem toks_bad {f l x li co : Nat} (h : tokM (blanksF l l x li co).1 (blanksF l l x li co).2.1 = none) : toksF (f + 1) l x li co = .bad (blanksF l l x li co).2.2.1 (blanksF l l x li co).2.2.2 := by
  simp only [toksF, h]
theorem toks_end {f l x li co num tl : Nat} (h : tokM (blanksF l l x li co).1 (blanksF l l x li co).2.1 = some (4, num, tl)) : toksF (f + 1) l x li co = .ok [⟨4, 0, (blanksF l l x li co).2.2.1, (blanksF l l x li co).2.2.2, 0, 0⟩] := by
  simp only [toksF, h]
theorem toks_more {f l x li co kind num tl : Nat} (h : tokM (blanksF l l x li co).1 (blanksF l l x li co).2.1 = some (kind, num, tl)) (hk : kind ≠ 4) :
    toksF (f + 1) l x li co = (toksF f ((blanksF l l x li co).1 - tl) ((blanksF l l x li co).2.1 / 256 ^ tl) (blanksF l l x li co).2.2.1 ((blanksF l l x li co).2.2.2 + tl)).pre [⟨kind, num, (blanksF l l x li co).2.2.1, (blanksF l l x li co).2.2.2, tl, (blanksF l l x li co).2.1 % 256 ^ tl⟩] := by
  simp only [toksF, h, beq_false_iff.mpr hk]

/-- Is it among the first bytes of a text? -/
def hasB : Nat → Nat → Nat → Bool
  | 0, _, _ => false
  | l + 1, n, c => match Nat.beq (n % 256) c with
    | true => true
    | false => hasB l (n / 256) c

theorem hasB_step {i l n c : Nat} (h : i < l) : hasB (l - i) (n / 256 ^ i) c = (match Nat.beq (n / 256 ^ i % 256) c with | true => true | false => hasB (l - (i + 1)) (n / 256 ^ (i + 1)) c) := by
  obtain ⟨m, hm⟩ : ∃ m, l - i = m + 1 := ⟨l - i - 1, by omega⟩
  rw [hm, show l - (i + 1) = m by omega, Nat.pow_succ, ← Nat.div_div_eq_div_mul]
  rfl

/-- The piece of a text from a place on: its kind, where it ends. -/
def pieceM (len n i : Nat) : Nat × Nat := match tokM (len - i) (n / 256 ^ i) with
  | none => (0, 0)
  | some (kind, _, tl) => (kind, i + tl)

/-! ### By places of a text -/

theorem div_pow_add (n i k : Nat) : n / 256 ^ i / 256 ^ k = n / 256 ^ (i + k) := by rw [Nat.div_div_eq_div_mul, ← Nat.pow_add]
theorem div_pow_one (n i : Nat) : n / 256 ^ i / 256 = n / 256 ^ (i + 1) := by rw [Nat.div_div_eq_div_mul, ← Nat.pow_succ]

theorem blanksF_fuel : ∀ {f g l n line col : Nat}, l ≤ f → l ≤ g → blanksF f l n line col = blanksF g l n line col
  | 0, g, l, n, line, col, hf, hg => by rw [blanks_end (f := 0) (.inl (by omega)), blanks_end (f := g) (.inl (by omega))]
  | f + 1, 0, l, n, line, col, hf, hg => by rw [blanks_end (f := f + 1) (.inl (by omega)), blanks_end (f := 0) (.inl (by omega))]
  | f + 1, g + 1, l, n, line, col, hf, hg => by
    by_cases h0 : l = 0
    · rw [blanks_end (f := f + 1) (.inl h0), blanks_end (f := g + 1) (.inl h0)]
    by_cases h1 : n % 256 = 32 ∨ n % 256 = 9
    · rw [blanks_blank (by omega) h1, blanks_blank (by omega) h1, blanksF_fuel (f := f) (g := g) (by omega) (by omega)]
    by_cases h2 : n % 256 = 10
    · rw [blanks_line (by omega) h2, blanks_line (by omega) h2, blanksF_fuel (f := f) (g := g) (by omega) (by omega)]
    by_cases h3 : n % 256 = 35
    · have hp : 0 < runP lineB l n := runP_pos (by omega) (by rw [h3]; rfl)
      rw [blanks_word (by omega) h3, blanks_word (by omega) h3, blanksF_fuel (f := f) (g := g) (by omega) (by omega)]
    · rw [blanks_end (f := f + 1) (.inr ⟨by omega, by omega, h2, h3⟩), blanks_end (f := g + 1) (.inr ⟨by omega, by omega, h2, h3⟩)]

/-- From another place on, behind blanks. -/
theorem toks_of_blanks {f l x li co l' x' li' co' : Nat} (h : blanksF l l x li co = blanksF l' l' x' li' co') : toksF (f + 1) l x li co = toksF (f + 1) l' x' li' co' := by
  simp only [toksF, h]

theorem tp_blank {F len n i line from_ : Nat} (hi : i < len) (hf : from_ ≤ i) (hb : n / 256 ^ i % 256 = 32 ∨ n / 256 ^ i % 256 = 9) :
    toksF (F + 1) (len - i) (n / 256 ^ i) line (i - from_ + 1) = toksF (F + 1) (len - (i + 1)) (n / 256 ^ (i + 1)) line (i + 1 - from_ + 1) := by
  refine toks_of_blanks ?_
  obtain ⟨m, hm⟩ : ∃ m, len - i = m + 1 := ⟨len - i - 1, by omega⟩
  rw [hm, blanks_blank (by omega) hb, div_pow_one, show m + 1 - 1 = m by omega, show len - (i + 1) = m by omega, show i - from_ + 1 + 1 = i + 1 - from_ + 1 by omega]
theorem tp_line {F len n i line from_ : Nat} (hi : i < len) (hb : n / 256 ^ i % 256 = 10) :
    toksF (F + 1) (len - i) (n / 256 ^ i) line (i - from_ + 1) = toksF (F + 1) (len - (i + 1)) (n / 256 ^ (i + 1)) (line + 1) (i + 1 - (i + 1) + 1) := by
  refine toks_of_blanks ?_
  obtain ⟨m, hm⟩ : ∃ m, len - i = m + 1 := ⟨len - i - 1, by omega⟩
  rw [hm, blanks_line (by omega) hb, div_pow_one, show m + 1 - 1 = m by omega, show len - (i + 1) = m by omega, show i + 1 - (i + 1) + 1 = 1 by omega]
theorem tp_rem {F len n i line from_ : Nat} (hi : i < len) (hf : from_ ≤ i) (hb : n / 256 ^ i % 256 = 35) :
    toksF (F + 1) (len - i) (n / 256 ^ i) line (i - from_ + 1) = toksF (F + 1) (len - (i + runP lineB (len - i) (n / 256 ^ i))) (n / 256 ^ (i + runP lineB (len - i) (n / 256 ^ i))) line (i + runP lineB (len - i) (n / 256 ^ i) - from_ + 1) := by
  refine toks_of_blanks ?_
  have hp : 0 < runP lineB (len - i) (n / 256 ^ i) := runP_pos (by omega) (by rw [hb]; rfl)
  generalize hk : runP lineB (len - i) (n / 256 ^ i) = k at *
  obtain ⟨m, hm⟩ : ∃ m, len - i = m + 1 := ⟨len - i - 1, by omega⟩
  rw [hm] at hk ⊢
  rw [blanks_word (by omega) hb, hk, div_pow_add, blanksF_fuel (g := m + 1 - k) (by omega) (by omega), show len - (i + k) = m + 1 - k by omega, show i - from_ + 1 + k = i + k - from_ + 1 by omega]
theorem tp_bad {F len n i line from_ : Nat} (hb : n / 256 ^ i % 256 ≠ 32 ∧ n / 256 ^ i % 256 ≠ 9 ∧ n / 256 ^ i % 256 ≠ 10 ∧ n / 256 ^ i % 256 ≠ 35) (h : tokM (len - i) (n / 256 ^ i) = none) :
    toksF (F + 1) (len - i) (n / 256 ^ i) line (i - from_ + 1) = .bad line (i - from_ + 1) := by
  simp only [toksF, blanks_end (.inr hb), h]
theorem tp_more {F len n i line from_ kind num tl : Nat} (hf : from_ ≤ i) (hb : n / 256 ^ i % 256 ≠ 32 ∧ n / 256 ^ i % 256 ≠ 9 ∧ n / 256 ^ i % 256 ≠ 10 ∧ n / 256 ^ i % 256 ≠ 35) (h : tokM (len - i) (n / 256 ^ i) = some (kind, num, tl)) (hk : kind ≠ 4) :
    toksF (F + 1) (len - i) (n / 256 ^ i) line (i - from_ + 1) = (toksF F (len - (i + tl)) (n / 256 ^ (i + tl)) line (i + tl - from_ + 1)).pre [⟨kind, num, line, i - from_ + 1, tl, n / 256 ^ i % 256 ^ tl⟩] := by
  simp only [toksF, blanks_end (.inr hb), h, beq_false_iff.mpr hk, div_pow_add]
  rw [show len - i - tl = len - (i + tl) by omega, show i - from_ + 1 + tl = i + tl - from_ + 1 by omega]
theorem tp_end {F len n line from_ : Nat} : toksF (F + 1) (len - len) (n / 256 ^ len) line (len - from_ + 1) = .ok [⟨4, 0, line, len - from_ + 1, 0, 0⟩] := by
  rw [Nat.sub_self]
  simp only [toksF, blanks_end (.inl rfl), show tokM 0 (n / 256 ^ len) = some (4, 0, 0) from rfl]

theorem tokM_num {l n num tl : Nat} (h : tokM l n = some (2, num, tl)) : tl ≤ 9 ∧ runP digitB tl (n % 256 ^ tl) = tl ∧ num = numP tl (n % 256 ^ tl) 0 := by
  unfold tokM at h
  split at h
  · simp at h
  · split at h
    · split at h <;> simp at h
    · split at h
      · split at h
        · rename_i hc
          simp only [Option.some.injEq, Prod.mk.injEq, true_and] at h
          obtain ⟨h1, h2⟩ := h
          subst h2
          simp only [Bool.and_eq_true, Nat.ble_eq] at hc
          exact ⟨hc.1, by rw [runP_mod (Nat.le_refl _), runP_self], h1.symm⟩
        · simp at h
      · split at h <;> simp at h
theorem tokM_other {l n kind num tl : Nat} (h : tokM l n = some (kind, num, tl)) (hk : kind ≠ 2) : num = 0 := by
  unfold tokM at h
  split at h
  · simp at h; omega
  · split at h
    · split at h <;> simp at h; omega
    · split at h
      · split at h
        · simp at h; omega
        · simp at h
      · split at h <;> simp at h; omega
theorem tokM_kind {l n kind num tl : Nat} (h : tokM l n = some (kind, num, tl)) : kind ≠ 0 := by
  unfold tokM at h
  split at h
  · simp at h; omega
  · split at h
    · split at h <;> simp at h; omega
    · split at h
      · split at h
        · simp at h; omega
        · simp at h
      · split at h <;> simp at h; omega

end Go.Proofs.YtjljgldgkkfckaaDoor.M

/- The plans of this program's drawn regions (printed by plan.lean). -/
namespace Go.Proofs.YtjljgldgkkfckaaDoor.M
open Go
def pl4 (r : Nat) : List Plan := match r with
  | 11 => [.s (.q 0), .s (.q 1), .s (.q 2), .s (.q 3), .s (.q 4), .s (.q 5), .s (.q 6), .s (.q 7), .s (.q 8), .s (.q 9), .s (.q 10), .s (.q 11), .s (.q 12), .s (.q 13), .s (.q 14), .s (.q 15), .s (.q 16), .s (.q 17), .s (.q 18), .s (.q 19), .s (.q 20), .s (.q 21), .s (.q 22), .s (.q 23), .s (.q 24), .s (.q 25), .s (.q 26)]
  | 13 => [.s (.q 0), .s (.q 1), .s (.q 2), .s (.q 3), .s (.q 4), .s (.q 5), .s (.q 6), .s (.q 7), .s (.q 8), .s (.q 9), .s (.q 10), .s (.q 11), .s (.q 12), .s (.q 13), .s (.q 14)]
  | _ => []
def pl5 (r : Nat) : List Plan := match r with
  | 21 => [.s (.q 0), .s (.q 1), .s (.q 2), .s (.q 3), .s (.q 4), .s (.q 5), .s (.q 6), .s (.q 7), .s (.q 8)]
  | 25 => [.s (.q 0), .s (.q 1), .s (.q 2), .s (.q 3), .s (.q 4), .s (.q 5)]
  | _ => []
def pl10 (r : Nat) : List Plan := match r with
  | 7 => [.s (.q 0), .s (.q 1), .s (.q 2), .s (.q 3), .s (.q 4), .s (.q 5), .s (.q 6), .s (.q 7)]
  | _ => []
def pl12 (r : Nat) : List Plan := match r with
  | 6 => [.s (.q 0), .s (.q 1), .s (.q 2), .s (.q 3), .s (.q 4), .s (.q 5), .s (.q 6), .s (.q 7), .s (.q 8)]
  | _ => []
def pl22 (r : Nat) : List Plan := match r with
  | 6 => [.s (.q 0), .s (.q 1), .s (.q 2), .s (.q 3), .s (.q 4), .s (.q 5), .s (.q 6), .s (.q 7), .s (.q 8), .s (.q 9), .s (.q 10), .s (.q 11), .s (.q 12), .s (.q 13), .s (.q 14), .s (.l 15 [1, 2, 12, 15, 16, 17, 18, 19, 20, 21]), .s (.q 16), .s (.q 17), .s (.l 18 [2, 18, 19, 20, 21]), .s (.q 19), .s (.q 20), .s (.l 21 [21])]
  | _ => []
def pl23 (r : Nat) : List Plan := match r with
  | 1 => [.s (.q 0), .s (.q 1), .s (.q 2), .s (.q 3), .s (.q 4), .s (.q 5), .s (.q 6), .s (.q 7), .s (.q 8), .s (.l 9 [0, 1, 2, 3, 4, 5, 6, 7, 8, 9, 10]), .s (.l 10 [10])]
  | _ => []
def pl35 (r : Nat) : List Plan := match r with
  | 0 => [.s (.q 0), .s (.q 1), .s (.q 2), .s (.q 3), .s (.q 4), .s (.q 5), .s (.q 6), .s (.q 7), .s (.q 8), .s (.q 9), .s (.q 10), .s (.q 11), .s (.q 12), .s (.q 13), .s (.q 14), .s (.q 15), .s (.l 16 [1, 12, 13, 16, 17, 18, 19]), .s (.q 17), .s (.q 18), .s (.l 19 [19])]
  | _ => []
def pl49 (r : Nat) : List Plan := match r with
  | 1 => [.s (.q 0), .s (.q 1), .s (.q 3), .s (.l 2 [0, 2, 3, 4, 5, 6]), .s (.q 4), .s (.l 5 [5, 6]), .s (.q 6)]
  | _ => []
def pl50 (r : Nat) : List Plan := match r with
  | 1 => [.s (.q 0), .s (.q 1), .s (.q 3), .s (.l 2 [0, 2, 3, 4, 5, 6]), .s (.q 4), .s (.l 5 [5, 6]), .s (.q 6)]
  | _ => []
def pl54 (r : Nat) : List Plan := match r with
  | 9 => [.s (.q 0), .s (.q 1), .s (.q 2), .s (.q 3), .s (.q 4), .s (.q 5), .s (.q 6), .s (.q 7), .s (.q 8), .s (.q 9), .s (.q 10), .s (.q 11), .s (.q 12), .s (.q 13), .s (.q 14), .s (.q 15), .s (.q 16), .s (.q 17), .s (.q 18), .s (.q 19)]
  | 18 => [.s (.q 0), .s (.q 1), .s (.q 2), .s (.q 3), .s (.q 4), .s (.q 5), .s (.q 6), .s (.q 7), .s (.q 8), .s (.q 9), .s (.q 10), .s (.q 11), .s (.q 12), .s (.q 13), .s (.q 14), .s (.q 15), .s (.q 16), .s (.q 17), .s (.q 18), .s (.q 19)]
  | _ => []
def pl55 (r : Nat) : List Plan := match r with
  | 9 => [.s (.q 0), .s (.q 1), .s (.q 2), .s (.q 3), .s (.q 4), .s (.q 5), .s (.q 6), .s (.q 7), .s (.q 8), .s (.q 9), .s (.q 10), .s (.q 11), .s (.q 12), .s (.q 13), .s (.q 14), .s (.q 15), .s (.q 16), .s (.q 17), .s (.q 18), .s (.q 19)]
  | _ => []
def pl66 (r : Nat) : List Plan := match r with
  | 7 => [.s (.q 0), .s (.q 1), .s (.q 2), .s (.q 3), .s (.q 4), .s (.q 5), .s (.q 6), .s (.q 7), .s (.q 8), .s (.q 9), .s (.q 10), .s (.q 11), .s (.l 12 [3, 4, 5, 9, 10, 12, 13, 14]), .s (.q 13), .s (.l 14 [14])]
  | 8 => [.s (.q 0), .s (.q 1), .s (.q 2), .s (.q 3), .s (.q 4), .s (.q 5), .s (.q 6), .s (.q 7), .s (.q 8), .s (.q 9), .s (.q 10), .s (.q 11), .s (.l 12 [3, 4, 5, 9, 10, 12, 13, 14]), .s (.q 13), .s (.l 14 [14])]
  | 9 => [.s (.q 0), .s (.q 1), .s (.q 2), .s (.q 3), .s (.q 4), .s (.q 5), .s (.q 6), .s (.q 7), .s (.q 8), .s (.q 9), .s (.q 10), .s (.q 11), .s (.l 12 [3, 4, 5, 9, 10, 12, 13, 14]), .s (.q 13), .s (.l 14 [14])]
  | 10 => [.s (.q 0), .s (.q 1), .s (.q 2), .s (.q 3), .s (.q 4), .s (.q 5), .s (.q 6), .s (.q 7), .s (.q 8), .s (.q 9), .s (.q 10), .s (.q 11), .s (.l 12 [3, 4, 5, 9, 10, 12, 13, 14]), .s (.q 13), .s (.l 14 [14])]
  | 17 => [.s (.q 0), .s (.q 1), .s (.q 2), .s (.q 3), .s (.q 4), .s (.q 5), .s (.q 6), .s (.q 7), .s (.q 8), .s (.q 9), .s (.q 10), .s (.q 11), .s (.l 12 [3, 4, 5, 9, 10, 12, 13, 14]), .s (.q 13), .s (.l 14 [14])]
  | 18 => [.s (.q 0), .s (.q 1), .s (.q 2), .s (.q 3), .s (.q 4), .s (.q 5), .s (.q 6), .s (.q 7), .s (.q 8), .s (.q 9), .s (.q 10), .s (.q 11), .s (.l 12 [3, 4, 5, 9, 10, 12, 13, 14]), .s (.q 13), .s (.l 14 [14])]
  | 23 => [.s (.q 0), .s (.q 1), .s (.q 2), .s (.q 3), .s (.q 4), .s (.q 5), .s (.q 6), .s (.q 7), .s (.q 8), .s (.q 9), .s (.q 10), .s (.q 11), .s (.l 12 [3, 4, 5, 9, 10, 12, 13, 14]), .s (.q 13), .s (.l 14 [14])]
  | _ => []
def plF (f : FuncId) : Nat → List Plan := match f with
  | 4 => pl4
  | 5 => pl5
  | 10 => pl10
  | 12 => pl12
  | 22 => pl22
  | 23 => pl23
  | 35 => pl35
  | 49 => pl49
  | 50 => pl50
  | 54 => pl54
  | 55 => pl55
  | 66 => pl66
  | _ => fun _ => []

def glob : Gl := ⟨plF, fun _ => [], false⟩
/-- The same, with rows as lists. -/
def globL : Gl := ⟨plF, fun _ => [], true⟩
end Go.Proofs.YtjljgldgkkfckaaDoor.M

/- All plans may be followed. -/
namespace Go.Proofs.YtjljgldgkkfckaaDoor.M
open Go

/-- Functions one behind the other. -/
def okR (P : Program) (G : Gl) (a n : Nat) : Bool := (List.range n).all fun i => okF P G (Nat.add a i)
theorem okR_ok {P : Program} {G : Gl} {a n : Nat} (h : okR P G a n = true) (f : Nat) (h1 : a ≤ f) (h2 : f < a + n) : okF P G f = true := by
  unfold okR at h
  rw [List.all_eq_true] at h
  have := h (f - a) (List.mem_range.mpr (by omega))
  rwa [show Nat.add a (f - a) = f by show a + (f - a) = f; omega] at this

theorem ok0 : okR Tryd.prog glob 0 12 = true := by kernel_rfl
theorem ok1 : okR Tryd.prog glob 12 12 = true := by kernel_rfl
theorem ok2 : okR Tryd.prog glob 24 12 = true := by kernel_rfl
theorem ok3 : okR Tryd.prog glob 36 12 = true := by kernel_rfl
theorem ok4 : okR Tryd.prog glob 48 12 = true := by kernel_rfl
theorem ok5 : okR Tryd.prog glob 60 12 = true := by kernel_rfl
theorem ok6 : okR Tryd.prog glob 72 12 = true := by kernel_rfl
theorem ok7 : okR Tryd.prog glob 84 12 = true := by kernel_rfl
theorem ok8 : okR Tryd.prog glob 96 11 = true := by kernel_rfl

theorem funcs_size : Tryd.prog.funcs.size = 107 := by kernel_rfl

theorem glob_ok : GOK' Tryd.prog glob := by
  intro f fn c hf hb
  have hlt := getElem?_lt hf
  rw [funcs_size] at hlt
  have key : okF Tryd.prog glob f = true := by
    rcases Nat.lt_or_ge f 12 with g0 | g0
    · exact okR_ok ok0 f (by omega) (by omega)
    rcases Nat.lt_or_ge f 24 with g1 | g1
    · exact okR_ok ok1 f (by omega) (by omega)
    rcases Nat.lt_or_ge f 36 with g2 | g2
    · exact okR_ok ok2 f (by omega) (by omega)
    rcases Nat.lt_or_ge f 48 with g3 | g3
    · exact okR_ok ok3 f (by omega) (by omega)
    rcases Nat.lt_or_ge f 60 with g4 | g4
    · exact okR_ok ok4 f (by omega) (by omega)
    rcases Nat.lt_or_ge f 72 with g5 | g5
    · exact okR_ok ok5 f (by omega) (by omega)
    rcases Nat.lt_or_ge f 84 with g6 | g6
    · exact okR_ok ok6 f (by omega) (by omega)
    rcases Nat.lt_or_ge f 96 with g7 | g7
    · exact okR_ok ok7 f (by omega) (by omega)
    exact okR_ok ok8 f (by omega) (by omega)
  unfold okF at key
  rw [hf] at key
  simp only [hb] at key
  exact key

theorem globL_ok : GOK' Tryd.prog globL := glob_ok

end Go.Proofs.YtjljgldgkkfckaaDoor.M

/- Helps: arrays made afresh, conditions that are asked for, rounds one by one, closed runs that say true, numbers as rows. -/
namespace Go.Proofs.YtjljgldgkkfckaaDoor.M
open Go
set_option linter.unusedSimpArgs false
set_option linter.unusedVariables false
variable {ρ : Nat → Value}

theorem follows : Tryd.prog.follows .mixedOrders = true := by kernel_rfl
theorem arg1 {q : V} (h : q.flat = true) : ∀ x ∈ [q], Arg2 [] x x := fun x hx => by simp at hx; subst hx; exact .flat _ h
theorem arg2 {q r : V} (h : q.flat = true) (h2 : r.flat = true) : ∀ x ∈ [q, r], Arg2 [] x x := fun x hx => by simp at hx; rcases hx with rfl | rfl <;> (refine .flat _ ?_; assumption)

/-- An array that was made afresh, as what it holds. -/
theorem frz_arr {O : Objs} {k len s : Nat} {full : Bool} {ob : Ob} {rows : List (List V)} (ho : O k = some ob) (hs : ob.s = s) (hl : rows.length = len) (hr : (List.range len).map ob.row = rows.map some)
    (hf : (rows.all fun row => row.all fun q => q.flat && q.one) = true) : Frz (fun _ => True) O (.sl k 0 len full) (.ro s rows) := by
  subst hs hl
  have hrow : ∀ r row', rows[r]? = some row' → ob.row r = some row' := fun r row' h => by
    have hlt : r < rows.length := (List.getElem?_eq_some_iff.mp h).1
    have e := congrArg (fun l => l[r]?) hr
    simp only [List.getElem?_map, List.getElem?_range hlt, h, Option.map_some, Option.some.injEq] at e
    exact e
  refine .cell (.sl k 0 rows.length full ob rows (fun r => (ob.row r).getD []) trivial ho rfl (fun r row' h => ⟨?_, ?_⟩) fun r row' h c q q' h1 h2 => ?_)
  · rw [Nat.zero_add, hrow r row' h]; rfl
  · show row'.length = ((ob.row r).getD []).length
    rw [hrow r row' h]; rfl
  · have h1 : ((ob.row r).getD [])[c]? = some q := h1
    rw [hrow r row' h] at h1
    have h1 : row'[c]? = some q := h1
    rw [h1] at h2
    cases h2
    have := List.all_eq_true.mp (List.all_eq_true.mp hf row' (List.mem_of_getElem? h)) q (List.mem_of_getElem? h1)
    rw [Bool.and_eq_true] at this
    exact .same q this.2 this.1

noncomputable def lexX (r : LexR) (f : List Tok → Ans) (g : Nat → Nat → Ans) : Ans := LexR.rec (motive := fun _ => AnsT) f g r
theorem lexX_inv {r : LexR} {f : List Tok → Ans} {g : Nat → Nat → Ans} (h : lexX r f g = .ok) : (∃ l, r = .ok l ∧ f l = .ok) ∨ ∃ a b, r = .bad a b ∧ g a b = .ok := by
  cases r with
  | ok l => exact .inl ⟨l, rfl, h⟩
  | bad a b => exact .inr ⟨a, b, rfl, h⟩
theorem lex_split {r : LexR} {f : List Tok → Ans} {g : Nat → Nat → Ans} (h1 : ∀ l, r = .ok l → f l = .ok) (h2 : ∀ a b, r = .bad a b → g a b = .ok) : LexR.rec (motive := fun _ => AnsT) f g r = .ok := by
  cases r with
  | ok l => exact h1 l rfl
  | bad a b => exact h2 a b rfl
theorem lex_ok {r : LexR} {l : List Tok} {f : List Tok → Ans} {g : Nat → Nat → Ans} (h : r = .ok l) (hf : f l = .ok) : LexR.rec (motive := fun _ => AnsT) f g r = .ok := by subst h; exact hf
theorem lex_bad {r : LexR} {a b : Nat} {f : List Tok → Ans} {g : Nat → Nat → Ans} (h : r = .bad a b) (hf : g a b = .ok) : LexR.rec (motive := fun _ => AnsT) f g r = .ok := by subst h; exact hf

/-- What is asked for. -/
noncomputable def askP (p : Prop) (k : Ans) : Ans := open Classical in if p then k else .err 9
theorem askP_ok {p : Prop} {k : Ans} (h : p) (hk : k = .ok) : askP p k = .ok := by unfold askP; rw [if_pos h]; exact hk
theorem askP_inv {p : Prop} {k : Ans} (h : askP p k = .ok) : p ∧ k = .ok := by
  unfold askP at h
  split at h
  · exact ⟨by assumption, h⟩
  · cases h

theorem unroll {c : Env → K3 → Tm → Hp → Nat → Ans} {E : Env} {R : Nat} {tm : Tm} {hp : Hp} {nx : Nat} (hR : 0 < R) (h : c E (roundsK c E (R - 1)) tm hp nx = .ok) : roundsK c E R tm hp nx = .ok := by
  obtain ⟨k, rfl⟩ : ∃ k, R = k + 1 := ⟨R - 1, by omega⟩
  exact h

/-- A run without unknowns that says true. -/
theorem says_true {P : Program} (hm : P.follows .mixedOrders = true) {G : Gl} (hG : GOK' P G) (n : Nat) {f : FuncId} (h : isOk (runF P G n f [] [] hp0 0 sayTrue sayNo) = true) : Says ρ P f [] (.bool true) := by
  refine says_frame (fun q hq => by cases hq) ?_
  have := run_sound (ρ := ρ) hm hG n (isOk_ok h)
  rw [absO_hp0, inL_nil] at this
  refine this.mono fun o O m hr => ?_
  cases o with
  | ret v =>
    obtain ⟨hp, _, h⟩ := hr
    obtain ⟨t, h1, h⟩ := V.onBool_inv h
    rcases boolK_inv h with ⟨rfl, _⟩ | ⟨_, h⟩
    · rw [h1]
      exact ⟨_, rfl, .flat _ rfl⟩
    · exact Ans.no h
  | panic v =>
    obtain ⟨hp, _, h⟩ := hr
    exact Ans.no h

def pickRow (z : Int) : List V := [.int .i64 z]

def pickOf (row : List V) : Int := match row with
  | [.int .i64 z] => z
  | _ => 0
theorem picks_of (picks : List Int) : picks.map pickRow = ((picks.map pickRow).map pickOf).map pickRow := by
  rw [List.map_map, List.map_map]
  rfl

end Go.Proofs.YtjljgldgkkfckaaDoor.M

/- The lexer's small functions. -/
namespace Go.Proofs.YtjljgldgkkfckaaDoor.M
open Go
set_option linter.unusedSimpArgs false
set_option linter.unusedVariables false
variable {ρ : Nat → Value}

attribute [local irreducible] forceN forceZ forceB okIf roundsK valK rowAt

set_option maxRecDepth 100000

theorem letter_says (c : Nat) : Says ρ Tryd.prog 26 [.int .u8 (.ofNat c)] (.bool (letterB c)) := by
  refine says_run (call := call0) follows globL_ok call0_ok (arg1 rfl) ?_
  repeat' ((conv => lhs; whnf); first | ((conv => lhs; arg 1; whnf); refine valK_ok ?_) | refine forceB_ok ?_ | refine forceN_add ?_ | refine forceN_sub ?_ | refine forceN_suc ?_ | refine forceN_part ?_ | refine forceN_byte ?_ | refine forceN_ok ?_ | refine forceZ_add ?_ | refine forceZ_mul (by (try simp only [maxK]); omega) ?_ | refine forceZ_sub ?_ | refine forceZ_ok ?_ | refine rowAt_ok (byteRows_get (by (try simp only [maxK]); omega)) ?_ | (apply rowAt_ok; (focus assumption)) | refine br_true (Nat.beq_refl _) ?_ | refine br_true (by assumption) ?_ | refine br_false (by assumption) ?_ | refine br_max (by (try simp only [maxK]); omega) ?_ | refine br_ble_t (by (try simp only [maxK]); omega) ?_ | refine br_ble_f (by (try simp only [maxK]); omega) ?_ | refine br_beq_f (by (try simp only [maxK]); omega) ?_ | refine br_true (by simp only [Bool.and_eq_true, Nat.ble_eq]; (try simp only []); omega) ?_ | (refine br_ble (fun h => ?_) (fun h => ?_) <;> (try simp only [] at h)) | (refine br_beq (fun h => ?_) (fun h => ?_) <;> (try simp only [] at h)) | refine br_split (fun h => ?_) (fun h => ?_) | fail)
  all_goals refine okIf_ok (frz_bool ?_)
  all_goals (first | (rw [Bool.eq_iff_iff]; simp only [letterB, Bool.and_eq_true, Bool.or_eq_true, Bool.not_eq_true', Nat.ble_eq, Nat.beq_eq, Bool.false_eq_true, Bool.true_eq_false, true_iff, false_iff, iff_true, iff_false, beq_false_iff, ble_false_iff] <;> omega) | (simp_all [letterB]; done) | (rw [Bool.eq_iff_iff]; simp_all [letterB] <;> omega))

theorem digit_says (c : Nat) : Says ρ Tryd.prog 37 [.int .u8 (.ofNat c)] (.bool (digitB c)) := by
  refine says_run (call := call0) follows globL_ok call0_ok (arg1 rfl) ?_
  repeat' ((conv => lhs; whnf); first | ((conv => lhs; arg 1; whnf); refine valK_ok ?_) | refine forceB_ok ?_ | refine forceN_add ?_ | refine forceN_sub ?_ | refine forceN_suc ?_ | refine forceN_part ?_ | refine forceN_byte ?_ | refine forceN_ok ?_ | refine forceZ_add ?_ | refine forceZ_mul (by (try simp only [maxK]); omega) ?_ | refine forceZ_sub ?_ | refine forceZ_ok ?_ | refine rowAt_ok (byteRows_get (by (try simp only [maxK]); omega)) ?_ | (apply rowAt_ok; (focus assumption)) | refine br_true (Nat.beq_refl _) ?_ | refine br_true (by assumption) ?_ | refine br_false (by assumption) ?_ | refine br_max (by (try simp only [maxK]); omega) ?_ | refine br_ble_t (by (try simp only [maxK]); omega) ?_ | refine br_ble_f (by (try simp only [maxK]); omega) ?_ | refine br_beq_f (by (try simp only [maxK]); omega) ?_ | refine br_true (by simp only [Bool.and_eq_true, Nat.ble_eq]; (try simp only []); omega) ?_ | (refine br_ble (fun h => ?_) (fun h => ?_) <;> (try simp only [] at h)) | (refine br_beq (fun h => ?_) (fun h => ?_) <;> (try simp only [] at h)) | refine br_split (fun h => ?_) (fun h => ?_) | fail)
  all_goals refine okIf_ok (frz_bool ?_)
  all_goals (first | (rw [Bool.eq_iff_iff]; simp only [digitB, Bool.and_eq_true, Bool.or_eq_true, Bool.not_eq_true', Nat.ble_eq, Nat.beq_eq, Bool.false_eq_true, Bool.true_eq_false, true_iff, false_iff, iff_true, iff_false, beq_false_iff, ble_false_iff] <;> omega) | (simp_all [digitB]; done) | (rw [Bool.eq_iff_iff]; simp_all [digitB] <;> omega))

noncomputable def ovB (p : Nat → Bool) : OvT := ovF fun | [.int .u8 (.ofNat c)] => some (true, .bool (p c)) | _ => none

theorem run_says (f : FuncId) (p : Nat → Bool) (hfn : fnOK Tryd.prog f = true) (hf : ∀ c, Says ρ Tryd.prog f [.int .u8 (.ofNat c)] (.bool (p c))) (len n : Nat) (hl : len < 9223372036854775807) : Says ρ Tryd.prog 27 [.ps len n, .fn f []] (.int .i64 (.ofNat (runP p len n))) := by
  have hov : OvOK ρ Tryd.prog f (ovB p) := ov_says fun args v h => by
    split at h
    · cases h; exact hf _
    · cases h
  refine says_run (call := over f (ovB p) call0) follows globL_ok (over_ok hov call0_ok) (fun q hq => by simp at hq; rcases hq with rfl | rfl; exact .flat _ rfl; exact .fn f) ?_
  repeat' ((conv => lhs; whnf); first | ((conv => lhs; arg 1; whnf); refine valK_ok ?_) | refine forceB_ok ?_ | refine forceN_add ?_ | refine forceN_sub ?_ | refine forceN_suc ?_ | refine forceN_part ?_ | refine forceN_byte ?_ | refine forceN_ok ?_ | refine forceZ_add ?_ | refine forceZ_mul (by (try simp only [maxK]); omega) ?_ | refine forceZ_sub ?_ | refine forceZ_ok ?_ | refine rowAt_ok (byteRows_get (by (try simp only [maxK]); omega)) ?_ | (apply rowAt_ok; (focus assumption)) | refine br_true (Nat.beq_refl _) ?_ | refine br_true (by assumption) ?_ | refine br_false (by assumption) ?_ | refine br_max (by (try simp only [maxK]); omega) ?_ | refine br_ble_t (by (try simp only [maxK]); omega) ?_ | refine br_ble_f (by (try simp only [maxK]); omega) ?_ | refine br_beq_f (by (try simp only [maxK]); omega) ?_ | refine br_true (by simp only [Bool.and_eq_true, Nat.ble_eq]; (try simp only []); omega) ?_ | (refine br_ble (fun h => ?_) (fun h => ?_) <;> (try simp only [] at h)) | (refine br_beq (fun h => ?_) (fun h => ?_) <;> (try simp only [] at h)) | refine br_split (fun h => ?_) (fun h => ?_) | fail)
  conv => lhs; whnf
  refine loop_ok (fun m tm hp nx => ∃ i, m = len - i ∧ i ≤ len ∧ runP p len n = i + runP p (len - i) (n / 256 ^ i) ∧ hp = hp0 ∧ get2 tm 0 = .ps len n ∧ get2 tm 1 = .fn f [] ∧ get2 tm 5 = .int .i64 (.ofNat i) ∧ get2 tm 255 = .un) (m := len) (by omega) ⟨0, rfl, by omega, by simp, rfl, rfl, rfl, rfl, rfl⟩ ?_
  rintro m tm hp nx ⟨i, rfl, hi, hr, rfl, e0, e1, e5, e255⟩ k hk
  (obtain ⟨y0, y1, y2, y3, y4, y5, y6, y7, y8, y9, y10, y11, y12, y13, y14, y15⟩ := tm; obtain ⟨x0, x1, x2, x3, x4, x5, x6, x7, x8, x9, x10, x11, x12, x13, x14, x15⟩ := y0; obtain ⟨x16, x17, x18, x19, x20, x21, x22, x23, x24, x25, x26, x27, x28, x29, x30, x31⟩ := y1; obtain ⟨x240, x241, x242, x243, x244, x245, x246, x247, x248, x249, x250, x251, x252, x253, x254, x255⟩ := y15)
  cases e0
  cases e1
  cases e5
  cases e255
  have hs := fun h => @runP_step p i len n h
  repeat' ((conv => lhs; whnf); first | ((conv => lhs; arg 1; whnf); refine valK_ok ?_) | refine forceB_ok ?_ | refine forceN_add ?_ | refine forceN_sub ?_ | refine forceN_suc ?_ | refine forceN_part ?_ | refine forceN_byte ?_ | refine forceN_ok ?_ | refine forceZ_add ?_ | refine forceZ_mul (by (try simp only [maxK]); omega) ?_ | refine forceZ_sub ?_ | refine forceZ_ok ?_ | refine rowAt_ok (byteRows_get (by (try simp only [maxK]); omega)) ?_ | (apply rowAt_ok; (focus assumption)) | refine br_true (Nat.beq_refl _) ?_ | refine br_true (by assumption) ?_ | refine br_false (by assumption) ?_ | refine br_max (by (try simp only [maxK]); omega) ?_ | refine br_ble_t (by (try simp only [maxK]); omega) ?_ | refine br_ble_f (by (try simp only [maxK]); omega) ?_ | refine br_beq_f (by (try simp only [maxK]); omega) ?_ | refine br_true (by simp only [Bool.and_eq_true, Nat.ble_eq]; (try simp only []); omega) ?_ | (refine br_ble (fun h => ?_) (fun h => ?_) <;> (try simp only [] at h)) | (refine br_beq (fun h => ?_) (fun h => ?_) <;> (try simp only [] at h)) | refine br_split (fun h => ?_) (fun h => ?_) | fail)
  all_goals (conv => lhs; whnf)
  · refine hk _ _ _ _ (by omega) ⟨i + 1, rfl, by omega, ?_, rfl, rfl, rfl, rfl, rfl⟩
    rw [hr, hs (by omega), ‹p _ = true›]
  · refine okIf_ok (frz_int ?_)
    rw [hr, hs (by omega), ‹p _ = false›]
  · refine okIf_ok (frz_int ?_)
    rw [hr, show len - i = 0 by omega]
    rfl

theorem inner_says (c : Nat) : Says ρ Tryd.prog 28 [.int .u8 (.ofNat c)] (.bool (innerB c)) := by
  have h1 : OvOK ρ Tryd.prog 26 (ovB letterB) := ov_says fun args v h => by
    split at h
    · cases h; exact letter_says _
    · cases h
  have h2 : OvOK ρ Tryd.prog 37 (ovB digitB) := ov_says fun args v h => by
    split at h
    · cases h; exact digit_says _
    · cases h
  refine says_run (call := over 26 (ovB letterB) (over 37 (ovB digitB) call0)) follows globL_ok (over_ok h1 (over_ok h2 call0_ok)) (arg1 rfl) ?_
  repeat' ((conv => lhs; whnf); first | ((conv => lhs; arg 1; whnf); refine valK_ok ?_) | refine forceB_ok ?_ | refine forceN_add ?_ | refine forceN_sub ?_ | refine forceN_suc ?_ | refine forceN_part ?_ | refine forceN_byte ?_ | refine forceN_ok ?_ | refine forceZ_add ?_ | refine forceZ_mul (by (try simp only [maxK]); omega) ?_ | refine forceZ_sub ?_ | refine forceZ_ok ?_ | refine rowAt_ok (byteRows_get (by (try simp only [maxK]); omega)) ?_ | (apply rowAt_ok; (focus assumption)) | refine br_true (Nat.beq_refl _) ?_ | refine br_true (by assumption) ?_ | refine br_false (by assumption) ?_ | refine br_max (by (try simp only [maxK]); omega) ?_ | refine br_ble_t (by (try simp only [maxK]); omega) ?_ | refine br_ble_f (by (try simp only [maxK]); omega) ?_ | refine br_beq_f (by (try simp only [maxK]); omega) ?_ | refine br_true (by simp only [Bool.and_eq_true, Nat.ble_eq]; (try simp only []); omega) ?_ | (refine br_ble (fun h => ?_) (fun h => ?_) <;> (try simp only [] at h)) | (refine br_beq (fun h => ?_) (fun h => ?_) <;> (try simp only [] at h)) | refine br_split (fun h => ?_) (fun h => ?_) | fail)
  all_goals refine okIf_ok (frz_bool ?_)
  all_goals (first | (rw [Bool.eq_iff_iff]; simp only [innerB, Bool.and_eq_true, Bool.or_eq_true, Bool.not_eq_true', Nat.ble_eq, Nat.beq_eq, Bool.false_eq_true, Bool.true_eq_false, true_iff, false_iff, iff_true, iff_false, beq_false_iff, ble_false_iff] <;> omega) | (simp_all [innerB]; done) | (rw [Bool.eq_iff_iff]; simp_all [innerB] <;> omega))

theorem line_says (c : Nat) : Says ρ Tryd.prog 36 [.int .u8 (.ofNat c)] (.bool (lineB c)) := by
  refine says_run (call := call0) follows globL_ok call0_ok (arg1 rfl) ?_
  repeat' ((conv => lhs; whnf); first | ((conv => lhs; arg 1; whnf); refine valK_ok ?_) | refine forceB_ok ?_ | refine forceN_add ?_ | refine forceN_sub ?_ | refine forceN_suc ?_ | refine forceN_part ?_ | refine forceN_byte ?_ | refine forceN_ok ?_ | refine forceZ_add ?_ | refine forceZ_mul (by (try simp only [maxK]); omega) ?_ | refine forceZ_sub ?_ | refine forceZ_ok ?_ | refine rowAt_ok (byteRows_get (by (try simp only [maxK]); omega)) ?_ | (apply rowAt_ok; (focus assumption)) | refine br_true (Nat.beq_refl _) ?_ | refine br_true (by assumption) ?_ | refine br_false (by assumption) ?_ | refine br_max (by (try simp only [maxK]); omega) ?_ | refine br_ble_t (by (try simp only [maxK]); omega) ?_ | refine br_ble_f (by (try simp only [maxK]); omega) ?_ | refine br_beq_f (by (try simp only [maxK]); omega) ?_ | refine br_true (by simp only [Bool.and_eq_true, Nat.ble_eq]; (try simp only []); omega) ?_ | (refine br_ble (fun h => ?_) (fun h => ?_) <;> (try simp only [] at h)) | (refine br_beq (fun h => ?_) (fun h => ?_) <;> (try simp only [] at h)) | refine br_split (fun h => ?_) (fun h => ?_) | fail)
  all_goals refine okIf_ok (frz_bool ?_)
  all_goals (first | (rw [Bool.eq_iff_iff]; simp only [lineB, Bool.and_eq_true, Bool.or_eq_true, Bool.not_eq_true', Nat.ble_eq, Nat.beq_eq, Bool.false_eq_true, Bool.true_eq_false, true_iff, false_iff, iff_true, iff_false, beq_false_iff, ble_false_iff] <;> omega) | (simp_all [lineB]; done) | (rw [Bool.eq_iff_iff]; simp_all [lineB] <;> omega))

noncomputable def ovRun : OvT := ovF fun
  | [.ps len n, .fn f []] => match f with
      | 28 => some (Nat.ble len 140737488355328, .int .i64 (.ofNat (runP innerB len n)))
      | 37 => some (Nat.ble len 140737488355328, .int .i64 (.ofNat (runP digitB len n)))
      | 36 => some (Nat.ble len 140737488355328, .int .i64 (.ofNat (runP lineB len n)))
      | _ => none
  | _ => none
theorem ovRun_ok : OvOK ρ Tryd.prog 27 ovRun := ov_says fun args v h => by
  split at h
  · split at h
    · injection h with h; injection h with h1 h2; subst h2; have := Nat.le_of_ble_eq_true h1; exact run_says 28 innerB (by kernel_rfl) inner_says _ _ (by omega)
    · injection h with h; injection h with h1 h2; subst h2; have := Nat.le_of_ble_eq_true h1; exact run_says 37 digitB (by kernel_rfl) digit_says _ _ (by omega)
    · injection h with h; injection h with h1 h2; subst h2; have := Nat.le_of_ble_eq_true h1; exact run_says 36 lineB (by kernel_rfl) line_says _ _ (by omega)
    · cases h
  · cases h

theorem ovB_ok {f : FuncId} {p : Nat → Bool} (h : ∀ c, Says ρ Tryd.prog f [.int .u8 (.ofNat c)] (.bool (p c))) : OvOK ρ Tryd.prog f (ovB p) := ov_says fun args v g => by
  split at g
  · cases g; exact h _
  · cases g

/-- Is it a word? -/
def wordM (len n : Nat) : Bool := Nat.ble 1 len && Nat.ble len 16 && letterB (n % 256) && Nat.beq (runP innerB len n) len

theorem word_says (len n : Nat) (hl : len ≤ 140737488355328) : Says ρ Tryd.prog 15 [.ps len n] (.bool (wordM len n)) := by
  refine says_run (call := over 26 (ovB letterB) (over 27 ovRun call0)) follows globL_ok (over_ok (ovB_ok letter_says) (over_ok ovRun_ok call0_ok)) (arg1 rfl) ?_
  repeat' ((conv => lhs; whnf); first | ((conv => lhs; arg 1; whnf); refine valK_ok ?_) | refine forceB_ok ?_ | refine forceN_add ?_ | refine forceN_sub ?_ | refine forceN_suc ?_ | refine forceN_part ?_ | refine forceN_byte ?_ | refine forceN_ok ?_ | refine forceZ_add ?_ | refine forceZ_mul (by (try simp only [maxK]); omega) ?_ | refine forceZ_sub ?_ | refine forceZ_ok ?_ | refine rowAt_ok (byteRows_get (by (try simp only [maxK]); omega)) ?_ | (apply rowAt_ok; (focus assumption)) | refine br_true (Nat.beq_refl _) ?_ | refine br_true (by assumption) ?_ | refine br_false (by assumption) ?_ | refine br_max (by (try simp only [maxK]); omega) ?_ | refine br_ble_t (by (try simp only [maxK]); omega) ?_ | refine br_ble_f (by (try simp only [maxK]); omega) ?_ | refine br_beq_f (by (try simp only [maxK]); omega) ?_ | refine br_true (by simp only [Bool.and_eq_true, Nat.ble_eq]; (try simp only []); omega) ?_ | (refine br_ble (fun h => ?_) (fun h => ?_) <;> (try simp only [] at h)) | (refine br_beq (fun h => ?_) (fun h => ?_) <;> (try simp only [] at h)) | refine br_split (fun h => ?_) (fun h => ?_) | fail)
  all_goals refine okIf_ok (frz_bool ?_)
  all_goals (try simp only [Nat.pow_zero, Nat.div_one] at *)
  all_goals (first | (rw [Bool.eq_iff_iff]; simp only [wordM, Bool.and_eq_true, Bool.or_eq_true, Bool.not_eq_true', Nat.ble_eq, Nat.beq_eq, Bool.false_eq_true, Bool.true_eq_false, true_iff, false_iff, iff_true, iff_false, beq_false_iff, ble_false_iff] <;> omega) | (simp_all [wordM]; done) | (rw [Bool.eq_iff_iff]; simp_all [wordM] <;> omega))

/-- Over so many bytes of one line. -/
theorem skip_says (len n line col k : Nat) (hk : k ≤ len) (hl : len ≤ 140737488355328) (hc : col + k ≤ 9223372036854775807) :
    SaysM ρ Tryd.prog 35 (fun _ _ => False) [.ps len n, .int .i64 (.ofNat line), .int .i64 (.ofNat col)] [.int .i64 (.ofNat k)] (.tup []) [.ps (len - k) (n / 256 ^ k), .int .i64 (.ofNat line), .int .i64 (.ofNat (col + k))] := by
  refine .wf (i := 0) rfl fun hn => ?_
  have e : (fun _ _ => False : Nat → Nat → Prop) = inL [] 0 := by rw [inL_nil]
  rw [e]
  refine saysM_run (call := call0) follows globL_ok call0_ok (fun q hq => by simp at hq; rcases hq with rfl | rfl | rfl <;> rfl) (arg1 rfl) ?_
  repeat' ((conv => lhs; whnf); first | ((conv => lhs; arg 1; whnf); refine valK_ok ?_) | refine forceB_ok ?_ | refine forceN_add ?_ | refine forceN_sub ?_ | refine forceN_suc ?_ | refine forceN_part ?_ | refine forceN_byte ?_ | refine forceN_ok ?_ | refine forceZ_add ?_ | refine forceZ_mul (by (try simp only [maxK]); omega) ?_ | refine forceZ_sub ?_ | refine forceZ_ok ?_ | refine rowAt_ok (byteRows_get (by (try simp only [maxK]); omega)) ?_ | (apply rowAt_ok; (focus assumption)) | refine br_true (Nat.beq_refl _) ?_ | refine br_true (by assumption) ?_ | refine br_false (by assumption) ?_ | refine br_max (by (try simp only [maxK]); omega) ?_ | refine br_ble_t (by (try simp only [maxK]); omega) ?_ | refine br_ble_f (by (try simp only [maxK]); omega) ?_ | refine br_beq_f (by (try simp only [maxK]); omega) ?_ | refine br_true (by simp only [Bool.and_eq_true, Nat.ble_eq]; (try simp only []); omega) ?_ | (refine br_ble (fun h => ?_) (fun h => ?_) <;> (try simp only [] at h)) | (refine br_beq (fun h => ?_) (fun h => ?_) <;> (try simp only [] at h)) | refine br_split (fun h => ?_) (fun h => ?_) | fail)
  conv => lhs; whnf
  refine okIf_ok ⟨frz_nil, frz_row rfl ?_ (by simp [V.flat, V.one])⟩
  rw [part_eq hn hk]

end Go.Proofs.YtjljgldgkkfckaaDoor.M

/- The lexer's reader. -/
namespace Go.Proofs.YtjljgldgkkfckaaDoor.M
open Go
set_option linter.unusedSimpArgs false
set_option linter.unusedVariables false
variable {ρ : Nat → Value}

attribute [local irreducible] forceN forceZ forceB okIf roundsK valK rowAt
set_option maxRecDepth 100000

noncomputable def ovSkip : OvT := ovM fun row args => match row, args with
  | [.ps len n, .int .i64 (.ofNat line), .int .i64 (.ofNat col)], [.int .i64 (.ofNat k)] =>
    some (Nat.ble k len && Nat.ble len 140737488355328 && Nat.ble (col + k) 9223372036854775807, .tup [], [.ps (len - k) (n / 256 ^ k), .int .i64 (.ofNat line), .int .i64 (.ofNat (col + k))])
  | _, _ => none
theorem ovSkip_ok : OvOK ρ Tryd.prog 35 ovSkip := ov_saysM fun row args v row' h => by
  split at h
  · injection h with h
    injection h with h1 h2
    injection h2 with h2 h3
    subst h2 h3
    simp only [Bool.and_eq_true, Nat.ble_eq] at h1
    exact skip_says _ _ _ _ _ h1.1.1 h1.1.2 h1.2
  · cases h

theorem blanks_says (len n line col : Nat) (hl : len ≤ 140737488355328) (hline : line ≤ 140737488355328) (hcol : col ≤ 140737488355328) (R : Nat × Nat × Nat × Nat) (hR : blanksF len len n line col = R) :
    SaysM ρ Tryd.prog 22 (fun _ _ => False) [.ps len n, .int .i64 (.ofNat line), .int .i64 (.ofNat col)] [] (.tup []) [.ps R.1 R.2.1, .int .i64 (.ofNat R.2.2.1), .int .i64 (.ofNat R.2.2.2)] := by
  refine .wf (i := 0) rfl fun hn => ?_
  rw [show (fun _ _ => False : Nat → Nat → Prop) = inL [] 0 by rw [inL_nil]]
  refine saysM_run (call := over 27 ovRun (over 35 ovSkip call0)) follows globL_ok (over_ok ovRun_ok (over_ok ovSkip_ok call0_ok)) (fun q hq => by simp at hq; rcases hq with rfl | rfl | rfl <;> rfl) (fun q hq => by cases hq) ?_
  repeat' ((conv => lhs; whnf); first | ((conv => lhs; arg 1; whnf); refine valK_ok ?_) | refine forceB_ok ?_ | refine forceN_add ?_ | refine forceN_sub ?_ | refine forceN_suc ?_ | refine forceN_part ?_ | refine forceN_byte ?_ | refine forceN_ok ?_ | refine forceZ_add ?_ | refine forceZ_mul (by (try simp only [maxK]); omega) ?_ | refine forceZ_sub ?_ | refine forceZ_ok ?_ | refine rowAt_ok (byteRows_get (by (try simp only [maxK]); omega)) ?_ | (apply rowAt_ok; (focus assumption)) | refine br_true (Nat.beq_refl _) ?_ | refine br_true (by assumption) ?_ | refine br_false (by assumption) ?_ | refine br_max (by (try simp only [maxK]); omega) ?_ | refine br_ble_t (by (try simp only [maxK]); omega) ?_ | refine br_ble_f (by (try simp only [maxK]); omega) ?_ | refine br_beq_f (by (try simp only [maxK]); omega) ?_ | refine br_true (by simp only [Bool.and_eq_true, Nat.ble_eq]; (try simp only []); omega) ?_ | (refine br_ble (fun h => ?_) (fun h => ?_) <;> (try simp only [] at h)) | (refine br_beq (fun h => ?_) (fun h => ?_) <;> (try simp only [] at h)) | refine br_split (fun h => ?_) (fun h => ?_) | fail)
  conv => lhs; whnf
  refine loop_ok (fun m tm hp nx => ∃ l x li co, hp = hpR [.ps l x, .int .i64 (.ofNat li), .int .i64 (.ofNat co)] ∧ x < 256 ^ l ∧ l ≤ m ∧ l ≤ len ∧ li + l ≤ 281474976710656 ∧ co + l ≤ 281474976710656 ∧ blanksF m l x li co = R ∧ get2 tm 0 = .ptr 0 0 0 ∧ get2 tm 255 = .un) (m := len) (by omega) ⟨len, n, line, col, rfl, hn, by omega, by omega, by omega, by omega, hR, rfl, rfl⟩ ?_
  rintro m tm hp nx ⟨l, x, li, co, rfl, hx, hm, hlen, hli, hco, hB, e0, e255⟩ k hk
  (obtain ⟨y0, y1, y2, y3, y4, y5, y6, y7, y8, y9, y10, y11, y12, y13, y14, y15⟩ := tm; obtain ⟨x0, x1, x2, x3, x4, x5, x6, x7, x8, x9, x10, x11, x12, x13, x14, x15⟩ := y0; obtain ⟨x16, x17, x18, x19, x20, x21, x22, x23, x24, x25, x26, x27, x28, x29, x30, x31⟩ := y1; obtain ⟨x32, x33, x34, x35, x36, x37, x38, x39, x40, x41, x42, x43, x44, x45, x46, x47⟩ := y2; obtain ⟨x240, x241, x242, x243, x244, x245, x246, x247, x248, x249, x250, x251, x252, x253, x254, x255⟩ := y15)
  cases e0
  cases e255
  have hrl := runP_le lineB l x
  repeat' ((conv => lhs; whnf); first | ((conv => lhs; arg 1; whnf); refine valK_ok ?_) | refine forceB_ok ?_ | refine forceN_add ?_ | refine forceN_sub ?_ | refine forceN_suc ?_ | refine forceN_part ?_ | refine forceN_byte ?_ | refine forceN_ok ?_ | refine forceZ_add ?_ | refine forceZ_mul (by (try simp only [maxK]); omega) ?_ | refine forceZ_sub ?_ | refine forceZ_ok ?_ | refine rowAt_ok (byteRows_get (by (try simp only [maxK]); omega)) ?_ | (apply rowAt_ok; (focus assumption)) | refine br_true (Nat.beq_refl _) ?_ | refine br_true (by assumption) ?_ | refine br_false (by assumption) ?_ | refine br_max (by (try simp only [maxK]); omega) ?_ | refine br_ble_t (by (try simp only [maxK]); omega) ?_ | refine br_ble_f (by (try simp only [maxK]); omega) ?_ | refine br_beq_f (by (try simp only [maxK]); omega) ?_ | refine br_true (by simp only [Bool.and_eq_true, Nat.ble_eq]; (try simp only []); omega) ?_ | (refine br_ble (fun h => ?_) (fun h => ?_) <;> (try simp only [] at h)) | (refine br_beq (fun h => ?_) (fun h => ?_) <;> (try simp only [] at h)) | refine br_split (fun h => ?_) (fun h => ?_) | fail)
  all_goals (try (conv => lhs; whnf))
  all_goals (try simp only [byte0] at *)
  all_goals (try have hl1 : 1 ≤ l := ‹Nat.succ 0 ≤ l›)
  · obtain ⟨m, rfl⟩ : ∃ j, m = j + 1 := ⟨m - 1, by omega⟩
    rw [blanks_blank hl1 (.inl ‹_›), ← Nat.pow_one 256] at hB
    exact hk m _ _ _ (by omega) ⟨l - 1, x / 256 ^ 1, li, co + 1, rfl, part_lt hx hl1, by omega, by omega, by omega, by omega, hB, rfl, rfl⟩
  · obtain ⟨m, rfl⟩ : ∃ j, m = j + 1 := ⟨m - 1, by omega⟩
    rw [blanks_blank hl1 (.inr ‹_›), ← Nat.pow_one 256] at hB
    exact hk m _ _ _ (by omega) ⟨l - 1, x / 256 ^ 1, li, co + 1, rfl, part_lt hx hl1, by omega, by omega, by omega, by omega, hB, rfl, rfl⟩
  · obtain ⟨m, rfl⟩ : ∃ j, m = j + 1 := ⟨m - 1, by omega⟩
    rw [blanks_line hl1 ‹_›, ← Nat.pow_one 256] at hB
    refine hk m _ _ _ (by omega) ⟨l - 1, x / 256 ^ 1, li + 1, 1, ?_, part_lt hx hl1, by omega, by omega, by omega, by omega, hB, rfl, rfl⟩
    rw [part_eq hx hl1]
    rfl
  · obtain ⟨m, rfl⟩ : ∃ j, m = j + 1 := ⟨m - 1, by omega⟩
    rw [blanks_word hl1 ‹_›] at hB
    have hpos := runP_pos (p := lineB) hl1 (by rw [‹x % 256 = 35›]; rfl)
    exact hk m _ _ _ (by omega) ⟨l - runP lineB l x, x / 256 ^ runP lineB l x, li, co + runP lineB l x, rfl, part_lt hx hrl, by omega, by omega, by omega, by omega, hB, rfl, rfl⟩
  · rw [blanks_end (.inr ⟨‹_›, ‹_›, ‹_›, ‹_›⟩)] at hB
    subst hB
    exact okIf_ok ⟨frz_nil, frz_row rfl rfl (by simp [V.flat, V.one])⟩
  · rw [blanks_end (.inl (by omega))] at hB
    subst hB
    exact okIf_ok ⟨frz_nil, frz_row rfl rfl (by simp [V.flat, V.one])⟩

end Go.Proofs.YtjljgldgkkfckaaDoor.M

/- Numbers, signs. -/
namespace Go.Proofs.YtjljgldgkkfckaaDoor.M
open Go
set_option linter.unusedSimpArgs false
set_option linter.unusedVariables false
variable {ρ : Nat → Value}

/-! ### Where a byte stands in a text -/

theorem qq_indexByte {P : Program} {σ : St} {C : CellP} {o : Oper} {x y : Operand} {ats : Array TypeId} {f : FuncId} {fn : Func} {len n c : Nat} (ho : o.op = .call { callee := .value (.func f), args := #[x, y], argTypes := ats })
    (hf : P.funcs[f]? = some fn) (hname : (fn.name == "runtime.NumGoroutine") = false) (hb : fn.body.isNone = true) (hn : Extern.findNext fn = none) (he : Extern.find fn = some Extern.BytealgIndexByte.indexByte)
    (hx : evalV σ x = .ps len n) (hy : evalV σ y = .int .u8 (.ofNat c)) : QQ ρ P σ C o (.int .i64 (firstIdx (unpack len n) c.toUInt8)) := by
  intro X T a w h
  have e1 := (rep_ps (ev_rep h hx)).1
  have e2 := rep_int (ev_rep h hy)
  refine ⟨_, .pure (.int _ _), fun w' hw hsm => ?_⟩
  have hr := run_callFunc_indexByte (P := P) hf hname hb hn he #[.string (unpack len n), .int .u8 (.ofNat c)] w'
  rw [run_indexByte_string] at hr
  have e3 : a.eval (.func f) = Value.func (Fn.func f) #[] #[] := rfl
  have hr' : (callFunc f #[.string (unpack len n), .int .u8 (c : Int)]).run P w' = .ok (.value (.int .i64 (firstIdx (unpack len n) c.toUInt8))) w' := by
    have h3 : (Int.ofNat c).toNat.toUInt8 = c.toUInt8 := rfl
    rw [h3] at hr
    exact hr
  simp [execOp, ho, resolve, e1, e2, e3, Deferred.ofValue, invoke, hr']

attribute [local irreducible] QC QS QFin in
theorem indexByte46 (len n c : Nat) : Says ρ Tryd.prog 46 [.ps len n, .int .u8 (.ofNat c)] (.int .i64 (firstIdx (unpack len n) c.toUInt8)) := by
  intro objs next forb
  refine qcalls_body (fun _ => false) Tryd.func46 rfl ?_
  repeat' first
    | refine q_seq ?_
    | refine q_region ?_
    | refine qs_quiet rfl (qq_move (.inl rfl)) (fun t ht => by cases ht; exact of_decide_eq_true rfl) ?_
    | refine qs_quiet rfl (qq_move (.inr rfl)) (fun t ht => by cases ht; exact of_decide_eq_true rfl) ?_
    | refine qs_quiet rfl (qq_indexByte rfl Tryd.func53 (by kernel_rfl) (by kernel_rfl) (by kernel_rfl) (by kernel_rfl) rfl rfl) (fun t ht => by cases ht; exact of_decide_eq_true rfl) ?_
    | refine qs_done ?_
    | refine q_skip ?_
    | refine q_ret ?_
    | refine fin_tmp rfl rfl rfl ?_
  exact ⟨rfl, rfl, rfl⟩

attribute [local irreducible] forceN forceZ forceB okIf roundsK valK rowAt
set_option maxRecDepth 100000

def signsL : Nat := 18
def signsN : Nat := packL [40, 41, 123, 125, 91, 93, 44, 59, 58, 61, 46, 43, 45, 42, 60, 94, 33, 63]
theorem sign_idx : ∀ c, c < 256 → (decide (0 ≤ firstIdx (unpack signsL signsN) c.toUInt8) == signB c) = true := by decide +kernel

theorem indexByte39 (len n c : Nat) : Says ρ Tryd.prog 39 [.ps len n, .int .u8 (.ofNat c)] (.int .i64 (firstIdx (unpack len n) c.toUInt8)) := by
  have hov : OvOK ρ Tryd.prog 46 (ovF fun | [.ps len n, .int .u8 (.ofNat c)] => some (true, .int .i64 (firstIdx (unpack len n) c.toUInt8)) | _ => none) := ov_says fun args v h => by
    split at h
    · cases h; exact indexByte46 _ _ _
    · cases h
  refine says_run (call := over 46 _ call0) follows globL_ok (over_ok hov call0_ok) (fun q hq => by simp at hq; rcases hq with rfl | rfl <;> exact .flat _ rfl) ?_
  repeat' ((conv => lhs; whnf); first | ((conv => lhs; arg 1; whnf); refine valK_ok ?_) | refine forceB_ok ?_ | refine forceN_add ?_ | refine forceN_sub ?_ | refine forceN_suc ?_ | refine forceN_part ?_ | refine forceN_byte ?_ | refine forceN_ok ?_ | refine forceZ_add ?_ | refine forceZ_mul (by (try simp only [maxK]); omega) ?_ | refine forceZ_sub ?_ | refine forceZ_ok ?_ | refine rowAt_ok (byteRows_get (by (try simp only [maxK]); omega)) ?_ | (apply rowAt_ok; (focus assumption)) | refine br_true (Nat.beq_refl _) ?_ | refine br_true (by assumption) ?_ | refine br_false (by assumption) ?_ | refine br_max (by (try simp only [maxK]); omega) ?_ | refine br_ble_t (by (try simp only [maxK]); omega) ?_ | refine br_ble_f (by (try simp only [maxK]); omega) ?_ | refine br_beq_f (by (try simp only [maxK]); omega) ?_ | refine br_true (by simp only [Bool.and_eq_true, Nat.ble_eq]; (try simp only []); omega) ?_ | (refine br_ble (fun h => ?_) (fun h => ?_) <;> (try simp only [] at h)) | (refine br_beq (fun h => ?_) (fun h => ?_) <;> (try simp only [] at h)) | refine br_split (fun h => ?_) (fun h => ?_) | fail)
  all_goals exact okIf_ok (frz_int rfl)

/-- Of the signs: whether, and if so where. -/
noncomputable def ovIdx : OvT := fun args _ hp nx kr _ => match args with
  | [.ps l n, .int .u8 (.ofNat c)] => must (Nat.beq l signsL) (must (Nat.beq n signsN) (must (Nat.ble c 255) (boolK (signB c) (kr (.int .i64 (.ofNat (firstIdx (unpack signsL signsN) c.toUInt8).toNat)) hp nx) (kr (.int .i64 (.negSucc 0)) hp nx))))
  | _ => .err 1
theorem ovIdx_ok : OvOK ρ Tryd.prog 39 ovIdx := by
  intro args forb hp nx kr kp h
  unfold ovIdx at h
  split at h
  · rename_i l n c
    obtain ⟨h1, g1⟩ := must_inv h
    obtain ⟨h2, g2⟩ := must_inv g1
    obtain ⟨h3, g3⟩ := must_inv g2
    clear h g1 g2
    replace h1 := Nat.eq_of_beq_eq_true h1
    replace h2 := Nat.eq_of_beq_eq_true h2
    replace h3 := Nat.le_of_ble_eq_true h3
    subst h1 h2
    refine (indexByte39 signsL signsN c (absO hp) nx (inL forb)).mono ?_
    rintro o O m ⟨e1, e2, e3⟩
    subst e1 e2 e3
    have hs := sign_idx c (by omega)
    simp only [beq_iff_eq] at hs
    refine ⟨hp, rfl, ?_⟩
    rcases boolK_inv g3 with ⟨g, h⟩ | ⟨g, h⟩
    · rw [g] at hs
      have := of_decide_eq_true hs
      rw [show firstIdx (unpack signsL signsN) c.toUInt8 = Int.ofNat (firstIdx (unpack signsL signsN) c.toUInt8).toNat by
        show _ = (((firstIdx (unpack signsL signsN) c.toUInt8).toNat : Nat) : Int); omega]
      exact h
    · rw [g] at hs
      have h0 := of_decide_eq_false hs
      have : firstIdx (unpack signsL signsN) c.toUInt8 = -1 := by
        unfold firstIdx at h0 ⊢
        split
        · rename_i i e; rw [e] at h0; simp at h0
        · rfl
      rw [this]
      exact h
  · exact Ans.no h

/-! ### Numbers -/

theorem atoi44 (len n : Nat) (h1 : 1 ≤ len) (h9 : len ≤ 9) (hd : runP digitB len n = len) : Says ρ Tryd.prog 44 [.ps len n] (.tup [.int .i64 (.ofNat (numP len n 0)), .sc .nilIface]) := by
  refine says_run (call := call0) follows globL_ok call0_ok (arg1 rfl) ?_
  have hd0 := runP_all hd h1
  have hdig : ∀ i, i < len → 48 ≤ n / 256 ^ i % 256 ∧ n / 256 ^ i % 256 ≤ 57 := fun i hi => by
    have := runP_all hd hi
    simp only [digitB, Bool.and_eq_true, Nat.ble_eq] at this
    exact this
  have hdig0 := hdig 0 h1
  repeat' ((conv => lhs; whnf); first | ((conv => lhs; arg 1; whnf); refine valK_ok ?_) | refine forceB_ok ?_ | refine forceN_add ?_ | refine forceN_sub ?_ | refine forceN_suc ?_ | refine forceN_part ?_ | refine forceN_byte ?_ | refine forceN_ok ?_ | refine forceZ_add ?_ | refine forceZ_mul (by (try simp only [maxK]); omega) ?_ | refine forceZ_sub ?_ | refine forceZ_ok ?_ | refine rowAt_ok (byteRows_get (by (try simp only [maxK]); omega)) ?_ | (apply rowAt_ok; (focus assumption)) | refine br_true (Nat.beq_refl _) ?_ | refine br_true (by assumption) ?_ | refine br_false (by assumption) ?_ | refine br_max (by (try simp only [maxK]); omega) ?_ | refine br_ble_t (by (try simp only [maxK]); omega) ?_ | refine br_ble_f (by (try simp only [maxK]); omega) ?_ | refine br_beq_f (by (try simp only [maxK]); omega) ?_ | refine br_true (by simp only [Bool.and_eq_true, Nat.ble_eq]; (try simp only []); omega) ?_ | (refine br_ble (fun h => ?_) (fun h => ?_) <;> (try simp only [] at h)) | (refine br_beq (fun h => ?_) (fun h => ?_) <;> (try simp only [] at h)) | refine br_split (fun h => ?_) (fun h => ?_) | fail)
  conv => lhs; whnf
  refine loop_ok (fun m tm hp nx => ∃ i a, m = len - i ∧ i ≤ len ∧ a < 10 ^ i ∧ hp = hp0 ∧ numP len n 0 = numP (len - i) (n / 256 ^ i) a ∧ get2 tm 0 = .ps len n ∧ get2 tm 5 = .ps len n ∧ get2 tm 6 = .int .i64 (.ofNat a) ∧ get2 tm 47 = .ro 1 (byteRows len n) ∧ get2 tm 48 = .int .i64 (.ofNat (byteRows len n).length) ∧ get2 tm 49 = .int .i64 (.ofNat i) ∧ get2 tm 255 = .un) (m := len) (by omega)
    ⟨0, 0, rfl, by omega, by simp, rfl, by simp, rfl, rfl, rfl, rfl, rfl, rfl, rfl⟩ ?_
  rintro m tm hp nx ⟨i, a, rfl, hi, ha, rfl, hv, e0, e5, e6, e47, e48, e49, e255⟩ k hk
  (obtain ⟨y0, y1, y2, y3, y4, y5, y6, y7, y8, y9, y10, y11, y12, y13, y14, y15⟩ := tm; obtain ⟨x0, x1, x2, x3, x4, x5, x6, x7, x8, x9, x10, x11, x12, x13, x14, x15⟩ := y0; obtain ⟨x16, x17, x18, x19, x20, x21, x22, x23, x24, x25, x26, x27, x28, x29, x30, x31⟩ := y1; obtain ⟨x32, x33, x34, x35, x36, x37, x38, x39, x40, x41, x42, x43, x44, x45, x46, x47⟩ := y2; obtain ⟨x48, x49, x50, x51, x52, x53, x54, x55, x56, x57, x58, x59, x60, x61, x62, x63⟩ := y3; obtain ⟨x64, x65, x66, x67, x68, x69, x70, x71, x72, x73, x74, x75, x76, x77, x78, x79⟩ := y4; obtain ⟨x240, x241, x242, x243, x244, x245, x246, x247, x248, x249, x250, x251, x252, x253, x254, x255⟩ := y15)
  cases e0
  cases e5
  cases e6
  cases e47
  cases e48
  cases e49
  cases e255
  have hpow : 10 ^ i ≤ 10 ^ 9 := Nat.pow_le_pow_right (by omega) (by omega)
  have hbl := byteRows_length len n
  have hdi := hdig i
  have hst := fun h => @numP_step i len n a h
  by_cases hlt : i < len
  · have hdi := hdi hlt
    have hst := hst hlt
    clear hdig
    repeat' ((conv => lhs; whnf); first | ((conv => lhs; arg 1; whnf); refine valK_ok ?_) | refine forceB_ok ?_ | refine forceN_add ?_ | refine forceN_sub ?_ | refine forceN_suc ?_ | refine forceN_part ?_ | refine forceN_byte ?_ | refine forceN_ok ?_ | refine forceZ_add ?_ | refine forceZ_mul (by (try simp only [maxK]); omega) ?_ | refine forceZ_sub ?_ | refine forceZ_ok ?_ | refine rowAt_ok (byteRows_get (by (try simp only [maxK]); omega)) ?_ | (apply rowAt_ok; (focus assumption)) | refine br_true (Nat.beq_refl _) ?_ | refine br_true (by assumption) ?_ | refine br_false (by assumption) ?_ | refine br_max (by (try simp only [maxK]); omega) ?_ | refine br_ble_t (by (try simp only [maxK]); omega) ?_ | refine br_ble_f (by (try simp only [maxK]); omega) ?_ | refine br_beq_f (by (try simp only [maxK]); omega) ?_ | refine br_true (by simp only [Bool.and_eq_true, Nat.ble_eq]; (try simp only []); omega) ?_ | (refine br_ble (fun h => ?_) (fun h => ?_) <;> (try simp only [] at h)) | (refine br_beq (fun h => ?_) (fun h => ?_) <;> (try simp only [] at h)) | refine br_split (fun h => ?_) (fun h => ?_) | fail)
    conv => lhs; whnf
    refine hk _ _ _ _ (by omega) ⟨i + 1, _, rfl, by omega, ?_, rfl, hv.trans hst, rfl, rfl, rfl, rfl, rfl, rfl, rfl⟩
    rw [Nat.pow_succ]
    omega
  · repeat' ((conv => lhs; whnf); first | ((conv => lhs; arg 1; whnf); refine valK_ok ?_) | refine forceB_ok ?_ | refine forceN_add ?_ | refine forceN_sub ?_ | refine forceN_suc ?_ | refine forceN_part ?_ | refine forceN_byte ?_ | refine forceN_ok ?_ | refine forceZ_add ?_ | refine forceZ_mul (by (try simp only [maxK]); omega) ?_ | refine forceZ_sub ?_ | refine forceZ_ok ?_ | refine rowAt_ok (byteRows_get (by (try simp only [maxK]); omega)) ?_ | (apply rowAt_ok; (focus assumption)) | refine br_true (Nat.beq_refl _) ?_ | refine br_true (by assumption) ?_ | refine br_false (by assumption) ?_ | refine br_max (by (try simp only [maxK]); omega) ?_ | refine br_ble_t (by (try simp only [maxK]); omega) ?_ | refine br_ble_f (by (try simp only [maxK]); omega) ?_ | refine br_beq_f (by (try simp only [maxK]); omega) ?_ | refine br_true (by simp only [Bool.and_eq_true, Nat.ble_eq]; (try simp only []); omega) ?_ | (refine br_ble (fun h => ?_) (fun h => ?_) <;> (try simp only [] at h)) | (refine br_beq (fun h => ?_) (fun h => ?_) <;> (try simp only [] at h)) | refine br_split (fun h => ?_) (fun h => ?_) | fail)
    refine okIf_ok (frz_cons (frz_int ?_) (frz_cons (.flat _ rfl) frz_nil))
    rw [hv, show len - i = 0 by omega]
    rfl

theorem atoi (len n : Nat) (h1 : 1 ≤ len) (h9 : len ≤ 9) (hd : runP digitB len n = len) : Says ρ Tryd.prog 38 [.ps len n] (.tup [.int .i64 (.ofNat (numP len n 0)), .sc .nilIface]) := by
  have hov : OvOK ρ Tryd.prog 44 (ovF fun | [.ps len n] => some (Nat.ble 1 len && Nat.ble len 9 && Nat.beq (runP digitB len n) len, .tup [.int .i64 (.ofNat (numP len n 0)), .sc .nilIface]) | _ => none) := ov_says fun args v h => by
    split at h
    · injection h with h
      injection h with g1 g2
      subst g2
      simp only [Bool.and_eq_true, Nat.ble_eq, Nat.beq_eq] at g1
      exact atoi44 _ _ g1.1.1 g1.1.2 g1.2
    · cases h
  have hc : (Nat.ble 1 len && Nat.ble len 9 && Nat.beq (runP digitB len n) len) = true := by simp only [Bool.and_eq_true, Nat.ble_eq, Nat.beq_eq]; exact ⟨⟨h1, h9⟩, hd⟩
  refine says_run (call := over 44 _ call0) follows globL_ok (over_ok hov call0_ok) (arg1 rfl) ?_
  repeat' ((conv => lhs; whnf); first | ((conv => lhs; arg 1; whnf); refine valK_ok ?_) | refine forceB_ok ?_ | refine forceN_add ?_ | refine forceN_sub ?_ | refine forceN_suc ?_ | refine forceN_part ?_ | refine forceN_byte ?_ | refine forceN_ok ?_ | refine forceZ_add ?_ | refine forceZ_mul (by (try simp only [maxK]); omega) ?_ | refine forceZ_sub ?_ | refine forceZ_ok ?_ | refine rowAt_ok (byteRows_get (by (try simp only [maxK]); omega)) ?_ | (apply rowAt_ok; (focus assumption)) | refine br_true (Nat.beq_refl _) ?_ | refine br_true (by assumption) ?_ | refine br_false (by assumption) ?_ | refine br_max (by (try simp only [maxK]); omega) ?_ | refine br_ble_t (by (try simp only [maxK]); omega) ?_ | refine br_ble_f (by (try simp only [maxK]); omega) ?_ | refine br_beq_f (by (try simp only [maxK]); omega) ?_ | refine br_true (by simp only [Bool.and_eq_true, Nat.ble_eq]; (try simp only []); omega) ?_ | (refine br_ble (fun h => ?_) (fun h => ?_) <;> (try simp only [] at h)) | (refine br_beq (fun h => ?_) (fun h => ?_) <;> (try simp only [] at h)) | refine br_split (fun h => ?_) (fun h => ?_) | fail)
  all_goals exact okIf_ok (frz_cons (frz_int rfl) (frz_cons (.flat _ rfl) frz_nil))

noncomputable def ovAtoi : OvT := ovF fun
  | [.ps len n] => some (Nat.ble 1 len && Nat.ble len 9 && Nat.beq (runP digitB len n) len, .tup [.int .i64 (.ofNat (numP len n 0)), .sc .nilIface])
  | _ => none
theorem ovAtoi_ok : OvOK ρ Tryd.prog 38 ovAtoi := ov_says fun args v h => by
  split at h
  · injection h with h
    injection h with g1 g2
    subst g2
    simp only [Bool.and_eq_true, Nat.ble_eq, Nat.beq_eq] at g1
    exact atoi _ _ g1.1.1 g1.1.2 g1.2
  · cases h

end Go.Proofs.YtjljgldgkkfckaaDoor.M

/- One token. -/
namespace Go.Proofs.YtjljgldgkkfckaaDoor.M
open Go
set_option linter.unusedSimpArgs false
set_option linter.unusedVariables false
variable {ρ : Nat → Value}

attribute [local irreducible] forceN forceZ forceB okIf roundsK valK rowAt
set_option maxRecDepth 100000

/-- What a reader hands out. -/
def tokOut (n line col : Nat) : Option (Nat × Nat × Nat) → V
  | some (kind, num, k) => .tup [.agg [.int .i64 (.ofNat kind), .int .i64 (.ofNat num), .int .i64 (.ofNat line), .int .i64 (.ofNat col), .ps k (n % 256 ^ k)], .bool true]
  | none => .tup [.agg [.int .i64 (.ofNat 0), .int .i64 (.ofNat 0), .int .i64 (.ofNat line), .int .i64 (.ofNat col), .ps 0 0], .bool false]
def tokRow (len n line col : Nat) : Option (Nat × Nat × Nat) → List V
  | some (_, _, k) => [.ps (len - k) (n / 256 ^ k), .int .i64 (.ofNat line), .int .i64 (.ofNat (col + k))]
  | none => [.ps len n, .int .i64 (.ofNat line), .int .i64 (.ofNat col)]

theorem token_says (len n line col : Nat) (hl : len ≤ 140737488355328) (hcol : col ≤ 281474976710656) :
    SaysM ρ Tryd.prog 23 (fun _ _ => False) [.ps len n, .int .i64 (.ofNat line), .int .i64 (.ofNat col)] [] (tokOut n line col (tokM len n)) (tokRow len n line col (tokM len n)) := by
  refine .wf (i := 0) rfl fun hn => ?_
  rw [show (fun _ _ => False : Nat → Nat → Prop) = inL [] 0 by rw [inL_nil]]
  refine saysM_run (call := over 26 (ovB letterB) (over 37 (ovB digitB) (over 27 ovRun (over 35 ovSkip (over 38 ovAtoi (over 39 ovIdx call0)))))) follows globL_ok
    (over_ok (ovB_ok letter_says) (over_ok (ovB_ok digit_says) (over_ok ovRun_ok (over_ok ovSkip_ok (over_ok ovAtoi_ok (over_ok ovIdx_ok call0_ok)))))) (fun q hq => by simp at hq; rcases hq with rfl | rfl | rfl <;> rfl) (fun q hq => by cases hq) ?_
  have hrun1 := runP_le innerB len n
  have hrun2 := runP_le digitB len n
  have es : ({ data := #[] } : ByteArray).size = 0 := rfl
  have ep : packL [] = 0 := rfl
  have hb0 := byte0 n
  have hmod := @runP_mod digitB (runP digitB len n) (runP digitB len n) n (Nat.le_refl _)
  have hself := @runP_self digitB len n
  have hend : ∀ (N : Nat → Prop) (O : Objs) (a b c d : Nat) (k m k' m' : Nat) (t : Bool), k = k' → m = m' → Frz N O (.tup [.agg [.int .i64 (.ofNat a), .int .i64 (.ofNat b), .int .i64 (.ofNat c), .int .i64 (.ofNat d), .ps k m], .bool t]) (.tup [.agg [.int .i64 (.ofNat a), .int .i64 (.ofNat b), .int .i64 (.ofNat c), .int .i64 (.ofNat d), .ps k' m'], .bool t]) :=
    fun N O a b c d k m k' m' t e1 e2 => frz_cons (frz_agg (frz_cons (frz_int rfl) (frz_cons (frz_int rfl) (frz_cons (frz_int rfl) (frz_cons (frz_int rfl) (frz_cons (frz_ps e1 e2) frz_nil)))))) (frz_cons (frz_bool rfl) frz_nil)
  have hrow3 : ∀ {k m a b : Nat}, ∀ q ∈ [V.ps k m, V.int .i64 (.ofNat a), V.int .i64 (.ofNat b)], q.flat = true ∧ q.one = true := fun q hq => by simp at hq; rcases hq with rfl | rfl | rfl <;> exact ⟨rfl, rfl⟩
  have hcond : 1 ≤ runP digitB len n → runP digitB len n ≤ 9 → (Nat.ble 1 (runP digitB len n) && Nat.ble (runP digitB len n) 9 && Nat.beq (runP digitB (runP digitB len n) (n / 256 ^ 0 % 256 ^ runP digitB len n)) (runP digitB len n)) = true := fun g1 g2 => by
    simp only [Nat.pow_zero, Nat.div_one, hmod, hself, Nat.beq_refl, Bool.and_true, Bool.and_eq_true, Nat.ble_eq]
    exact ⟨g1, g2⟩
  by_cases h0 : len = 0
  · subst h0
    have hn0 : n = 0 := by simpa using hn
    subst hn0
    repeat' ((conv => lhs; whnf); first | ((conv => lhs; arg 1; whnf); refine valK_ok ?_) | refine forceB_ok ?_ | refine forceN_add ?_ | refine forceN_sub ?_ | refine forceN_suc ?_ | refine forceN_part ?_ | refine forceN_byte ?_ | refine forceN_ok ?_ | refine forceZ_add ?_ | refine forceZ_mul (by (try simp only [maxK]); omega) ?_ | refine forceZ_sub ?_ | refine forceZ_ok ?_ | refine rowAt_ok (byteRows_get (by (try simp only [maxK]); omega)) ?_ | (apply rowAt_ok; (focus assumption)) | refine br_true (Nat.beq_refl _) ?_ | refine br_true (by assumption) ?_ | refine br_false (by assumption) ?_ | refine br_max (by (try simp only [maxK]); omega) ?_ | refine br_ble_t (by (try simp only [maxK]); omega) ?_ | refine br_ble_f (by (try simp only [maxK]); omega) ?_ | refine br_beq_f (by (try simp only [maxK]); omega) ?_ | refine br_true (by simp only [Bool.and_eq_true, Nat.ble_eq]; (try simp only []); omega) ?_ | (refine br_ble (fun h => ?_) (fun h => ?_) <;> (try simp only [] at h)) | (refine br_beq (fun h => ?_) (fun h => ?_) <;> (try simp only [] at h)) | refine br_split (fun h => ?_) (fun h => ?_) | fail)
    exact okIf_ok ⟨hend _ _ 4 0 line col 0 0 _ _ true rfl rfl, frz_row (row := [.ps 0 0, .int .i64 (.ofNat line), .int .i64 (.ofNat col)]) rfl rfl hrow3⟩
  have hpos : 0 < len := by omega
  repeat' ((conv => lhs; whnf); first | ((conv => lhs; arg 1; whnf); refine valK_ok ?_) | refine forceB_ok ?_ | refine forceN_add ?_ | refine forceN_sub ?_ | refine forceN_suc ?_ | refine forceN_part ?_ | refine forceN_byte ?_ | refine forceN_ok ?_ | refine forceZ_add ?_ | refine forceZ_mul (by (try simp only [maxK]); omega) ?_ | refine forceZ_sub ?_ | refine forceZ_ok ?_ | refine rowAt_ok (byteRows_get (by (try simp only [maxK]); omega)) ?_ | (apply rowAt_ok; (focus assumption)) | refine br_true (Nat.beq_refl _) ?_ | refine br_true (by assumption) ?_ | refine br_false (by assumption) ?_ | refine br_max (by (try simp only [maxK]); omega) ?_ | refine br_ble_t (by (try simp only [maxK]); omega) ?_ | refine br_ble_f (by (try simp only [maxK]); omega) ?_ | refine br_beq_f (by (try simp only [maxK]); omega) ?_ | refine br_true (by simp only [Bool.and_eq_true, Nat.ble_eq]; (try simp only []); omega) ?_ | (refine br_ble (fun h => ?_) (fun h => ?_) <;> (try simp only [] at h)) | (refine br_beq (fun h => ?_) (fun h => ?_) <;> (try simp only [] at h)) | refine br_split (fun h => ?_) (fun h => ?_) | fail)
  all_goals (try (conv => lhs; whnf))
  all_goals (try simp only [byte0, Nat.sub_zero] at *)
  · rw [tok_wordNo hpos ‹_› (by omega)]
    exact okIf_ok ⟨hend _ _ 0 0 line col 0 0 _ _ false rfl rfl, frz_row rfl rfl hrow3⟩
  · rw [tok_word hpos ‹_› (by omega)]
    exact okIf_ok ⟨hend _ _ 1 0 line col _ _ _ _ true rfl (by rw [Nat.pow_zero, Nat.div_one]), frz_row rfl rfl hrow3⟩
  · rw [tok_numNo hpos ‹_› ‹_› (.inl (by omega))]
    exact okIf_ok ⟨hend _ _ 0 0 line col 0 0 _ _ false rfl rfl, frz_row rfl rfl hrow3⟩
  · rw [tok_numNo hpos ‹_› ‹_› (.inr ⟨by omega, by omega⟩)]
    exact okIf_ok ⟨hend _ _ 0 0 line col 0 0 _ _ false rfl rfl, frz_row rfl rfl hrow3⟩
  · rw [tok_num hpos ‹letterB (n % 256) = false› ‹digitB (n % 256) = true› (by omega) (.inr (by omega))]
    simp only [Nat.pow_zero, Nat.div_one]
    exact okIf_ok ⟨hend _ _ 2 _ line col _ _ _ _ true rfl rfl, frz_row rfl rfl hrow3⟩
  · have hp2 := runP_pos (p := digitB) hpos ‹digitB (n % 256) = true›
    have hc2 := hcond (by omega) (by omega)
    rw [‹(Nat.ble 1 (runP digitB len n) && Nat.ble (runP digitB len n) 9 && Nat.beq (runP digitB (runP digitB len n) (n / 256 ^ 0 % 256 ^ runP digitB len n)) (runP digitB len n)) = false›] at hc2
    cases hc2
  · rw [tok_num hpos ‹letterB (n % 256) = false› ‹digitB (n % 256) = true› (by omega) (.inl (by omega))]
    simp only [Nat.pow_zero, Nat.div_one]
    exact okIf_ok ⟨hend _ _ 2 _ line col _ _ _ _ true rfl rfl, frz_row rfl rfl hrow3⟩
  · have hp2 := runP_pos (p := digitB) hpos ‹digitB (n % 256) = true›
    have hc2 := hcond (by omega) (by omega)
    rw [‹(Nat.ble 1 (runP digitB len n) && Nat.ble (runP digitB len n) 9 && Nat.beq (runP digitB (runP digitB len n) (n / 256 ^ 0 % 256 ^ runP digitB len n)) (runP digitB len n)) = false›] at hc2
    cases hc2
  · rw [tok_sign hpos ‹letterB (n % 256) = false› ‹digitB (n % 256) = false› ‹signB (n % 256) = true›]
    simp only [Nat.pow_zero, Nat.div_one]
    exact okIf_ok ⟨hend _ _ 3 0 line col _ _ _ _ true rfl rfl, frz_row rfl rfl hrow3⟩
  · rw [tok_none hpos ‹letterB (n % 256) = false› ‹digitB (n % 256) = false› ‹signB (n % 256) = false›]
    exact okIf_ok ⟨hend _ _ 0 0 line col 0 0 _ _ false rfl rfl, frz_row rfl rfl hrow3⟩

end Go.Proofs.YtjljgldgkkfckaaDoor.M

/- All tokens of a text. -/
namespace Go.Proofs.YtjljgldgkkfckaaDoor.M
open Go
set_option linter.unusedSimpArgs false
set_option linter.unusedVariables false
variable {ρ : Nat → Value}

attribute [local irreducible] forceN forceZ forceB okIf roundsK valK rowAt
set_option maxRecDepth 100000

noncomputable def ovBlanks : OvT := ovM fun row args => match row, args with
  | [.ps len n, .int .i64 (.ofNat line), .int .i64 (.ofNat col)], [] =>
    some (Nat.ble len 140737488355328 && Nat.ble line 140737488355328 && Nat.ble col 140737488355328, .tup [],
      [.ps (blanksF len len n line col).1 (blanksF len len n line col).2.1, .int .i64 (.ofNat (blanksF len len n line col).2.2.1), .int .i64 (.ofNat (blanksF len len n line col).2.2.2)])
  | _, _ => none
theorem ovBlanks_ok : OvOK ρ Tryd.prog 22 ovBlanks := ov_saysM fun row args v row' h => by
  split at h
  · injection h with h
    injection h with h1 h2
    injection h2 with h2 h3
    subst h2 h3
    simp only [Bool.and_eq_true, Nat.ble_eq] at h1
    exact blanks_says _ _ _ _ h1.1.1 h1.1.2 h1.2 _ rfl
  · cases h

noncomputable def ovToken : OvT := fun args forb hp nx kr _ => match args with
  | [.ptr k 0 0] => (acc4 KOb k).get hp fun ob => match ob with
    | .cell [.ps len n, .int .i64 (.ofNat line), .int .i64 (.ofNat col)] => must (Nat.ble len 140737488355328) (must (Nat.ble col 281474976710656) (noneK k forb
        (optX (tokM len n) ((acc4 KOb k).upd hp (.cell (tokRow len n line col none)) fun hp' => kr (tokOut n line col none) hp' nx)
          (fun t => (acc4 KOb k).upd hp (.cell (tokRow len n line col (some t))) fun hp' => kr (tokOut n line col (some t)) hp' nx))))
    | _ => .err 3
  | _ => .err 4
theorem ovToken_ok : OvOK ρ Tryd.prog 23 ovToken := by
  intro args forb hp nx kr kp h0
  unfold ovToken at h0
  split at h0
  · rename_i k
    obtain ⟨hlt, h1⟩ := acc4_get h0
    split at h1
    · rename_i ob len n line col hob
      obtain ⟨c1, h2⟩ := must_inv h1
      obtain ⟨c2, h3⟩ := must_inv h2
      obtain ⟨hn, h4⟩ := noneK_inv h3
      have key := token_says (ρ := ρ) len n line col (Nat.le_of_ble_eq_true c1) (Nat.le_of_ble_eq_true c2) (absO hp) nx (inL forb) k (by unfold absO; rw [if_pos hlt, hob]; rfl) (fun r c hx => (hn r c hx).elim)
      refine key.mono ?_
      rintro o O m ⟨e1, e2, e3⟩
      subst e1 e2 e3
      rcases optX_inv h4 with ⟨e, h5⟩ | ⟨t, e, h5⟩
      · obtain ⟨_, h6⟩ := acc4_upd h5
        rw [e]
        exact ⟨put4 hp k (.cell (tokRow len n line col none)), by rw [absO_put hlt]; rfl, h6⟩
      · obtain ⟨_, h6⟩ := acc4_upd h5
        rw [e]
        exact ⟨put4 hp k (.cell (tokRow len n line col (some t))), by rw [absO_put hlt]; rfl, h6⟩
    · exact Ans.no h1
  · exact Ans.no h0

attribute [local irreducible] acc4 get4 put4

/-- What Tokens answers. -/
def toksOut : LexR → V
  | .ok l => .tup [.ro 5 (l.map Tok.row), .int .i64 (.ofNat 0), .int .i64 (.ofNat 0), .int .i64 (.ofNat 0)]
  | .bad line col => .tup [.sc (.slice none 0 0), .int .i64 (.ofNat line), .int .i64 (.ofNat col), .int .i64 (.ofNat 2)]

theorem tok_flat {t : Tok} : ∀ q ∈ t.row, q.flat = true ∧ q.one = true := fun q hq => by simp [Tok.row] at hq; rcases hq with rfl | rfl | rfl | rfl | rfl <;> exact ⟨rfl, rfl⟩
theorem toks_flat {l : List Tok} : ∀ row ∈ l.map Tok.row, ∀ q ∈ row, q.flat = true ∧ q.one = true := fun row hr q hq => by obtain ⟨t, _, rfl⟩ := List.mem_map.mp hr; exact tok_flat q hq

set_option maxHeartbeats 4000000 in
theorem tokens_says (len n : Nat) (hl : len ≤ 16384) : Says ρ Tryd.prog 10 [.ps len n] (toksOut (toksF (len + 1) len n 1 1)) := by
  refine .wf (i := 0) rfl fun hn => ?_
  refine says_run (call := over 22 ovBlanks (over 23 ovToken call0)) follows globL_ok (over_ok ovBlanks_ok (over_ok ovToken_ok call0_ok)) (arg1 rfl) ?_
  repeat' (first | ((conv => lhs; whnf); first | ((conv => lhs; arg 1; whnf); refine valK_ok ?_) | refine forceB_ok ?_ | refine forceN_add ?_ | refine forceN_sub ?_ | refine forceN_suc ?_ | refine forceN_part ?_ | refine forceN_byte ?_ | refine forceN_ok ?_ | refine forceZ_add ?_ | refine forceZ_mul (by (try simp only [maxK]); omega) ?_ | refine forceZ_sub ?_ | refine forceZ_ok ?_ | refine rowAt_ok (byteRows_get (by (try simp only [maxK]); omega)) ?_ | (apply rowAt_ok; (focus assumption)) | refine br_true (Nat.beq_refl _) ?_ | refine br_true (by assumption) ?_ | refine br_false (by assumption) ?_ | refine br_max (by (try simp only [maxK]); omega) ?_ | refine br_ble_t (by (try simp only [maxK]); omega) ?_ | refine br_ble_f (by (try simp only [maxK]); omega) ?_ | refine br_beq_f (by (try simp only [maxK]); omega) ?_ | refine br_true (by simp only [Bool.and_eq_true, Nat.ble_eq]; (try simp only []); omega) ?_ | (refine br_ble (fun h => ?_) (fun h => ?_) <;> (try simp only [] at h)) | (refine br_beq (fun h => ?_) (fun h => ?_) <;> (try simp only [] at h)) | refine br_split (fun h => ?_) (fun h => ?_) | fail) | ((conv => lhs; whnf); first | refine acc4_upd_ok (by omega) ?_ | refine acc4_get_same (by omega) ?_ | refine acc4_get_other (by omega) (by omega) (by omega) ?_ | refine acc4_get_ok (by omega) (by assumption) ?_ | refine opt3_split (fun h => ?_) (fun kind num tl h => ?_) | refine int_split (fun a h => ?_) (fun a h => ?_) | fail))
  conv => lhs; whnf
  refine loop_ok (fun m tm hp nx => ∃ l x li co acc, l < m ∧ x < 256 ^ l ∧ get4 hp 0 = .cell [.ps l x, .int .i64 (.ofNat li), .int .i64 (.ofNat co)] ∧ (toksF m l x li co).pre acc = toksF (len + 1) len n 1 1 ∧ l ≤ 16384 ∧ li + l ≤ 16386 ∧ co + l ≤ 16386 ∧ 1 ≤ nx ∧ nx + 3 * m ≤ 50000 ∧ acc.length + m = len + 1 ∧
    (acc = [] ∧ get2 tm 2 = .sc (.slice none 0 0) ∨ ∃ j, 0 < j ∧ j < nx ∧ get4 hp j = .ls 5 (acc.map Tok.row) ∧ get2 tm 2 = .sl j 0 (acc.map Tok.row).length false) ∧ get2 tm 6 = .ptr 0 0 0 ∧ get2 tm 255 = .un) (m := len + 1) (by omega)
    ⟨len, n, 1, 1, [], by omega, hn, get4_same (by omega), LexR.pre_nil _, hl, by omega, by omega, by omega, by omega, by simp, .inl ⟨rfl, rfl⟩, rfl, rfl⟩ ?_
  rintro m tm hp nx ⟨l, x, li, co, acc, hlm, hx, hrow, hres, hl1, hli, hco, hnx, hnx2, hal, hacc, e6, e255⟩ k hk
  have hB := blanksF_facts (f := l) (line := li) (col := co) hx
  have hT := fun kind num tl h => @tokM_facts (blanksF l l x li co).1 (blanksF l l x li co).2.1 kind num tl h
  have hal2 : (acc.map Tok.row).length = acc.length := by simp
  (obtain ⟨y0, y1, y2, y3, y4, y5, y6, y7, y8, y9, y10, y11, y12, y13, y14, y15⟩ := tm; obtain ⟨x0, x1, x2, x3, x4, x5, x6, x7, x8, x9, x10, x11, x12, x13, x14, x15⟩ := y0; obtain ⟨x16, x17, x18, x19, x20, x21, x22, x23, x24, x25, x26, x27, x28, x29, x30, x31⟩ := y1; obtain ⟨x32, x33, x34, x35, x36, x37, x38, x39, x40, x41, x42, x43, x44, x45, x46, x47⟩ := y2; obtain ⟨x240, x241, x242, x243, x244, x245, x246, x247, x248, x249, x250, x251, x252, x253, x254, x255⟩ := y15)
  cases e6
  cases e255
  obtain ⟨f, rfl⟩ : ∃ f, m = f + 1 := ⟨m - 1, by omega⟩
  rcases hacc with ⟨ea, e2⟩ | ⟨j, hj0, hj, hob, e2⟩
  · subst ea
    cases e2
    repeat' (first | ((conv => lhs; whnf); first | ((conv => lhs; arg 1; whnf); refine valK_ok ?_) | refine forceB_ok ?_ | refine forceN_add ?_ | refine forceN_sub ?_ | refine forceN_suc ?_ | refine forceN_part ?_ | refine forceN_byte ?_ | refine forceN_ok ?_ | refine forceZ_add ?_ | refine forceZ_mul (by (try simp only [maxK]); omega) ?_ | refine forceZ_sub ?_ | refine forceZ_ok ?_ | refine rowAt_ok (byteRows_get (by (try simp only [maxK]); omega)) ?_ | (apply rowAt_ok; (focus assumption)) | refine br_true (Nat.beq_refl _) ?_ | refine br_true (by assumption) ?_ | refine br_false (by assumption) ?_ | refine br_max (by (try simp only [maxK]); omega) ?_ | refine br_ble_t (by (try simp only [maxK]); omega) ?_ | refine br_ble_f (by (try simp only [maxK]); omega) ?_ | refine br_beq_f (by (try simp only [maxK]); omega) ?_ | refine br_true (by simp only [Bool.and_eq_true, Nat.ble_eq]; (try simp only []); omega) ?_ | (refine br_ble (fun h => ?_) (fun h => ?_) <;> (try simp only [] at h)) | (refine br_beq (fun h => ?_) (fun h => ?_) <;> (try simp only [] at h)) | refine br_split (fun h => ?_) (fun h => ?_) | fail) | ((conv => lhs; whnf); first | refine acc4_upd_ok (by omega) ?_ | refine acc4_get_same (by omega) ?_ | refine acc4_get_other (by omega) (by omega) (by omega) ?_ | refine acc4_get_ok (by omega) (by assumption) ?_ | refine opt3_split (fun h => ?_) (fun kind num tl h => ?_) | refine int_split (fun a h => ?_) (fun a h => ?_) | fail))
    all_goals (try (conv => lhs; whnf))
    · rw [LexR.pre_nil, toks_bad ‹_›] at hres
      rw [← hres]
      exact okIf_ok (frz_cons (.flat _ rfl) (frz_cons (frz_int rfl) (frz_cons (frz_int rfl) (frz_cons (frz_int rfl) frz_nil))))
    · rename_i ht
      subst h
      obtain ⟨_, ⟨_, _, hnum, htl⟩ | ⟨h4, _⟩⟩ := hT _ _ _ ht
      · subst hnum htl
        rw [toks_end ht, LexR.pre] at hres
        rw [← hres]
        refine okIf_ok (frz_cons (frz_ls (by omega) rfl ?_ rfl toks_flat) (frz_cons (frz_int rfl) (frz_cons (frz_int rfl) (frz_cons (frz_int rfl) frz_nil))))
        rw [Nat.pow_zero, Nat.mod_one]
        rfl
      · exact absurd rfl h4
    · rename_i ht
      obtain ⟨h5, ⟨h4, _⟩ | ⟨h4, h6⟩⟩ := hT _ _ _ ht
      · exact absurd h4 h
      · rw [toks_more ht h4, LexR.pre_pre] at hres
        refine hk f _ _ _ (by omega) ⟨_, _, _, _, _, ?_, part_lt hB.2.1 h5, ?_, hres, ?_, ?_, ?_, ?_, ?_, ?_, .inr ⟨nx + 1 + 1, ?_, ?_, ?_, ?_⟩, rfl, rfl⟩
        · omega
        · exact get4_other (by omega) (by omega) (by omega) (get4_other (by omega) (by omega) (by omega) (get4_other (by omega) (by omega) (by omega) (get4_other (by omega) (by omega) (by omega) (get4_same (by omega)))))
        · omega
        · omega
        · omega
        · omega
        · omega
        · simp at hal ⊢; omega
        · omega
        · omega
        · exact get4_same (by omega)
        · rfl
  · cases e2
    repeat' (first | ((conv => lhs; whnf); first | ((conv => lhs; arg 1; whnf); refine valK_ok ?_) | refine forceB_ok ?_ | refine forceN_add ?_ | refine forceN_sub ?_ | refine forceN_suc ?_ | refine forceN_part ?_ | refine forceN_byte ?_ | refine forceN_ok ?_ | refine forceZ_add ?_ | refine forceZ_mul (by (try simp only [maxK]); omega) ?_ | refine forceZ_sub ?_ | refine forceZ_ok ?_ | refine rowAt_ok (byteRows_get (by (try simp only [maxK]); omega)) ?_ | (apply rowAt_ok; (focus assumption)) | refine br_true (Nat.beq_refl _) ?_ | refine br_true (by assumption) ?_ | refine br_false (by assumption) ?_ | refine br_max (by (try simp only [maxK]); omega) ?_ | refine br_ble_t (by (try simp only [maxK]); omega) ?_ | refine br_ble_f (by (try simp only [maxK]); omega) ?_ | refine br_beq_f (by (try simp only [maxK]); omega) ?_ | refine br_true (by simp only [Bool.and_eq_true, Nat.ble_eq]; (try simp only []); omega) ?_ | (refine br_ble (fun h => ?_) (fun h => ?_) <;> (try simp only [] at h)) | (refine br_beq (fun h => ?_) (fun h => ?_) <;> (try simp only [] at h)) | refine br_split (fun h => ?_) (fun h => ?_) | fail) | ((conv => lhs; whnf); first | refine acc4_upd_ok (by omega) ?_ | refine acc4_get_same (by omega) ?_ | refine acc4_get_other (by omega) (by omega) (by omega) ?_ | refine acc4_get_ok (by omega) (by assumption) ?_ | refine opt3_split (fun h => ?_) (fun kind num tl h => ?_) | refine int_split (fun a h => ?_) (fun a h => ?_) | fail))
    all_goals (try (conv => lhs; whnf))
    · rw [toks_bad ‹_›, LexR.pre] at hres
      rw [← hres]
      exact okIf_ok (frz_cons (.flat _ rfl) (frz_cons (frz_int rfl) (frz_cons (frz_int rfl) (frz_cons (frz_int rfl) frz_nil))))
    · rename_i ht _
      subst h
      obtain ⟨_, ⟨_, _, hnum, htl⟩ | ⟨h4, _⟩⟩ := hT _ _ _ ht
      · subst hnum htl
        rw [toks_end ht, LexR.pre] at hres
        rw [← hres]
        refine okIf_ok (frz_cons (frz_ls (by omega) rfl ?_ ?_ toks_flat) (frz_cons (frz_int rfl) (frz_cons (frz_int rfl) (frz_cons (frz_int rfl) frz_nil))))
        · rw [Nat.pow_zero, Nat.mod_one]
          rw [List.take_length, List.map_append]
          rfl
        · simp
      · exact absurd rfl h4
    · rename_i ht _
      obtain ⟨h5, ⟨h4, _⟩ | ⟨h4, h6⟩⟩ := hT _ _ _ ht
      · exact absurd h4 h
      · rw [toks_more ht h4, LexR.pre_pre] at hres
        refine hk f _ _ _ (by omega) ⟨_, _, _, _, _, ?_, part_lt hB.2.1 h5, ?_, hres, ?_, ?_, ?_, ?_, ?_, ?_, .inr ⟨nx + 1 + 1, ?_, ?_, ?_, ?_⟩, rfl, rfl⟩
        · omega
        · exact get4_other (by omega) (by omega) (by omega) (get4_other (by omega) (by omega) (by omega) (get4_other (by omega) (by omega) (by omega) (get4_other (by omega) (by omega) (by omega) (get4_other (by omega) (by omega) (by omega) (get4_same (by omega))))))
        · omega
        · omega
        · omega
        · omega
        · omega
        · simp at hal ⊢; omega
        · omega
        · omega
        · rw [List.map_append]
          refine (get4_same (by omega)).trans ?_
          rw [List.take_length]
          rfl
        · rw [List.map_append, List.length_append]
          rfl
    · have h7 : 140737488355328 < ((acc.map Tok.row).length + 1) * 48 := h
      omega

end Go.Proofs.YtjljgldgkkfckaaDoor.M

/- The document's lexer: pieces. -/
namespace Go.Proofs.YtjljgldgkkfckaaDoor.M
open Go
set_option linter.unusedSimpArgs false
set_option linter.unusedVariables false
variable {ρ : Nat → Value}

attribute [local irreducible] forceN forceZ forceB okIf roundsK valK rowAt
set_option maxRecDepth 100000

theorem rletter_says (c : Nat) : Says ρ Tryd.prog 30 [.int .u8 (.ofNat c)] (.bool (letterB c)) := by
  refine says_run (call := call0) follows globL_ok call0_ok (arg1 rfl) ?_
  repeat' ((conv => lhs; whnf); first | ((conv => lhs; arg 1; whnf); refine valK_ok ?_) | refine forceB_ok ?_ | refine forceN_add ?_ | refine forceN_sub ?_ | refine forceN_suc ?_ | refine forceN_part ?_ | refine forceN_byte ?_ | refine forceN_ok ?_ | refine forceZ_add ?_ | refine forceZ_mul (by (try simp only [maxK]); omega) ?_ | refine forceZ_sub ?_ | refine forceZ_ok ?_ | refine rowAt_ok (byteRows_get (by (try simp only [maxK]); omega)) ?_ | (apply rowAt_ok; (focus assumption)) | refine br_true (Nat.beq_refl _) ?_ | refine br_true (by assumption) ?_ | refine br_false (by assumption) ?_ | refine br_max (by (try simp only [maxK]); omega) ?_ | refine br_ble_t (by (try simp only [maxK]); omega) ?_ | refine br_ble_f (by (try simp only [maxK]); omega) ?_ | refine br_beq_f (by (try simp only [maxK]); omega) ?_ | refine br_true (by simp only [Bool.and_eq_true, Nat.ble_eq]; (try simp only []); omega) ?_ | (refine br_ble (fun h => ?_) (fun h => ?_) <;> (try simp only [] at h)) | (refine br_beq (fun h => ?_) (fun h => ?_) <;> (try simp only [] at h)) | refine br_split (fun h => ?_) (fun h => ?_) | fail)
  all_goals refine okIf_ok (frz_bool ?_)
  all_goals (first | (rw [Bool.eq_iff_iff]; simp only [letterB, Bool.and_eq_true, Bool.or_eq_true, Bool.not_eq_true', Nat.ble_eq, Nat.beq_eq, Bool.false_eq_true, Bool.true_eq_false, true_iff, false_iff, iff_true, iff_false, beq_false_iff, ble_false_iff] <;> omega) | (simp_all [letterB]; done) | (rw [Bool.eq_iff_iff]; simp_all [letterB] <;> omega))

theorem rdigit_says (c : Nat) : Says ρ Tryd.prog 31 [.int .u8 (.ofNat c)] (.bool (digitB c)) := by
  refine says_run (call := call0) follows globL_ok call0_ok (arg1 rfl) ?_
  repeat' ((conv => lhs; whnf); first | ((conv => lhs; arg 1; whnf); refine valK_ok ?_) | refine forceB_ok ?_ | refine forceN_add ?_ | refine forceN_sub ?_ | refine forceN_suc ?_ | refine forceN_part ?_ | refine forceN_byte ?_ | refine forceN_ok ?_ | refine forceZ_add ?_ | refine forceZ_mul (by (try simp only [maxK]); omega) ?_ | refine forceZ_sub ?_ | refine forceZ_ok ?_ | refine rowAt_ok (byteRows_get (by (try simp only [maxK]); omega)) ?_ | (apply rowAt_ok; (focus assumption)) | refine br_true (Nat.beq_refl _) ?_ | refine br_true (by assumption) ?_ | refine br_false (by assumption) ?_ | refine br_max (by (try simp only [maxK]); omega) ?_ | refine br_ble_t (by (try simp only [maxK]); omega) ?_ | refine br_ble_f (by (try simp only [maxK]); omega) ?_ | refine br_beq_f (by (try simp only [maxK]); omega) ?_ | refine br_true (by simp only [Bool.and_eq_true, Nat.ble_eq]; (try simp only []); omega) ?_ | (refine br_ble (fun h => ?_) (fun h => ?_) <;> (try simp only [] at h)) | (refine br_beq (fun h => ?_) (fun h => ?_) <;> (try simp only [] at h)) | refine br_split (fun h => ?_) (fun h => ?_) | fail)
  all_goals refine okIf_ok (frz_bool ?_)
  all_goals (first | (rw [Bool.eq_iff_iff]; simp only [digitB, Bool.and_eq_true, Bool.or_eq_true, Bool.not_eq_true', Nat.ble_eq, Nat.beq_eq, Bool.false_eq_true, Bool.true_eq_false, true_iff, false_iff, iff_true, iff_false, beq_false_iff, ble_false_iff] <;> omega) | (simp_all [digitB]; done) | (rw [Bool.eq_iff_iff]; simp_all [digitB] <;> omega))

theorem has_sign : ∀ c, c < 256 → (hasB signsL signsN c == signB c) = true := by decide +kernel

theorem sign_says (c : Nat) (hc : c < 256) : Says ρ Tryd.prog 40 [.int .u8 (.ofNat c)] (.bool (signB c)) := by
  have hs := has_sign c hc
  simp only [beq_iff_eq] at hs
  rw [← hs]
  refine says_run (call := call0) follows globL_ok call0_ok (arg1 rfl) ?_
  repeat' ((conv => lhs; whnf); first | ((conv => lhs; arg 1; whnf); refine valK_ok ?_) | refine forceB_ok ?_ | refine forceN_add ?_ | refine forceN_sub ?_ | refine forceN_suc ?_ | refine forceN_part ?_ | refine forceN_byte ?_ | refine forceN_ok ?_ | refine forceZ_add ?_ | refine forceZ_mul (by (try simp only [maxK]); omega) ?_ | refine forceZ_sub ?_ | refine forceZ_ok ?_ | refine rowAt_ok (byteRows_get (by (try simp only [maxK]); omega)) ?_ | (apply rowAt_ok; (focus assumption)) | refine br_true (Nat.beq_refl _) ?_ | refine br_true (by assumption) ?_ | refine br_false (by assumption) ?_ | refine br_max (by (try simp only [maxK]); omega) ?_ | refine br_ble_t (by (try simp only [maxK]); omega) ?_ | refine br_ble_f (by (try simp only [maxK]); omega) ?_ | refine br_beq_f (by (try simp only [maxK]); omega) ?_ | refine br_true (by simp only [Bool.and_eq_true, Nat.ble_eq]; (try simp only []); omega) ?_ | (refine br_ble (fun h => ?_) (fun h => ?_) <;> (try simp only [] at h)) | (refine br_beq (fun h => ?_) (fun h => ?_) <;> (try simp only [] at h)) | refine br_split (fun h => ?_) (fun h => ?_) | fail)
  conv => lhs; whnf
  refine loop_ok (fun m tm hp nx => ∃ i, m = signsL - i ∧ i ≤ signsL ∧ hasB signsL signsN c = hasB (signsL - i) (signsN / 256 ^ i) c ∧ hp = hp0 ∧ get2 tm 0 = .int .u8 (.ofNat c) ∧ get2 tm 3 = .ps signsL signsN ∧ get2 tm 4 = .int .i64 (.ofNat i) ∧ get2 tm 255 = .un) (m := signsL) (by decide)
    ⟨0, rfl, by omega, by simp, rfl, rfl, rfl, rfl, rfl⟩ ?_
  rintro m tm hp nx ⟨i, rfl, hi, hv, rfl, e0, e3, e4, e255⟩ k hk
  (obtain ⟨y0, y1, y2, y3, y4, y5, y6, y7, y8, y9, y10, y11, y12, y13, y14, y15⟩ := tm; obtain ⟨x0, x1, x2, x3, x4, x5, x6, x7, x8, x9, x10, x11, x12, x13, x14, x15⟩ := y0; obtain ⟨x240, x241, x242, x243, x244, x245, x246, x247, x248, x249, x250, x251, x252, x253, x254, x255⟩ := y15)
  cases e0
  cases e3
  cases e4
  cases e255
  have hL : signsL = 18 := rfl
  have hst := fun h => @hasB_step i signsL signsN c h
  repeat' ((conv => lhs; whnf); first | ((conv => lhs; arg 1; whnf); refine valK_ok ?_) | refine forceB_ok ?_ | refine forceN_add ?_ | refine forceN_sub ?_ | refine forceN_suc ?_ | refine forceN_part ?_ | refine forceN_byte ?_ | refine forceN_ok ?_ | refine forceZ_add ?_ | refine forceZ_mul (by (try simp only [maxK]); omega) ?_ | refine forceZ_sub ?_ | refine forceZ_ok ?_ | refine rowAt_ok (byteRows_get (by (try simp only [maxK]); omega)) ?_ | (apply rowAt_ok; (focus assumption)) | refine br_true (Nat.beq_refl _) ?_ | refine br_true (by assumption) ?_ | refine br_false (by assumption) ?_ | refine br_max (by (try simp only [maxK]); omega) ?_ | refine br_ble_t (by (try simp only [maxK]); omega) ?_ | refine br_ble_f (by (try simp only [maxK]); omega) ?_ | refine br_beq_f (by (try simp only [maxK]); omega) ?_ | refine br_true (by simp only [Bool.and_eq_true, Nat.ble_eq]; (try simp only []); omega) ?_ | (refine br_ble (fun h => ?_) (fun h => ?_) <;> (try simp only [] at h)) | (refine br_beq (fun h => ?_) (fun h => ?_) <;> (try simp only [] at h)) | refine br_split (fun h => ?_) (fun h => ?_) | fail)
  all_goals (try (conv => lhs; whnf))
  · refine okIf_ok (frz_bool ?_)
    rw [hv, hst (by omega), Nat.beq_eq.mpr ‹_›]
  · refine hk _ _ _ _ (by omega) ⟨i + 1, rfl, by omega, ?_, rfl, rfl, rfl, rfl, rfl⟩
    rw [hv, hst (by omega), beq_false_iff.mpr ‹_›]
  · refine okIf_ok (frz_bool ?_)
    rw [hv, show signsL - i = 0 by omega]
    rfl

theorem number_says (len n : Nat) (h9 : len ≤ 9) (hd : runP digitB len n = len) : Says ρ Tryd.prog 25 [.ps len n] (.int .i64 (.ofNat (numP len n 0))) := by
  refine says_run (call := call0) follows globL_ok call0_ok (arg1 rfl) ?_
  have hdig : ∀ i, i < len → 48 ≤ n / 256 ^ i % 256 ∧ n / 256 ^ i % 256 ≤ 57 := fun i hi => by
    have := runP_all hd hi
    simp only [digitB, Bool.and_eq_true, Nat.ble_eq] at this
    exact this
  repeat' ((conv => lhs; whnf); first | ((conv => lhs; arg 1; whnf); refine valK_ok ?_) | refine forceB_ok ?_ | refine forceN_add ?_ | refine forceN_sub ?_ | refine forceN_suc ?_ | refine forceN_part ?_ | refine forceN_byte ?_ | refine forceN_ok ?_ | refine forceZ_add ?_ | refine forceZ_mul (by (try simp only [maxK]); omega) ?_ | refine forceZ_sub ?_ | refine forceZ_ok ?_ | refine rowAt_ok (byteRows_get (by (try simp only [maxK]); omega)) ?_ | (apply rowAt_ok; (focus assumption)) | refine br_true (Nat.beq_refl _) ?_ | refine br_true (by assumption) ?_ | refine br_false (by assumption) ?_ | refine br_max (by (try simp only [maxK]); omega) ?_ | refine br_ble_t (by (try simp only [maxK]); omega) ?_ | refine br_ble_f (by (try simp only [maxK]); omega) ?_ | refine br_beq_f (by (try simp only [maxK]); omega) ?_ | refine br_true (by simp only [Bool.and_eq_true, Nat.ble_eq]; (try simp only []); omega) ?_ | (refine br_ble (fun h => ?_) (fun h => ?_) <;> (try simp only [] at h)) | (refine br_beq (fun h => ?_) (fun h => ?_) <;> (try simp only [] at h)) | refine br_split (fun h => ?_) (fun h => ?_) | fail)
  conv => lhs; whnf
  refine loop_ok (fun m tm hp nx => ∃ i a, m = len - i ∧ i ≤ len ∧ a < 10 ^ i ∧ hp = hp0 ∧ numP len n 0 = numP (len - i) (n / 256 ^ i) a ∧ get2 tm 0 = .ps len n ∧ get2 tm 3 = .int .i64 (.ofNat a) ∧ get2 tm 4 = .int .i64 (.ofNat i) ∧ get2 tm 255 = .un) (m := len) (by omega)
    ⟨0, 0, rfl, by omega, by simp, rfl, by simp, rfl, rfl, rfl, rfl⟩ ?_
  rintro m tm hp nx ⟨i, a, rfl, hi, ha, rfl, hv, e0, e3, e4, e255⟩ k hk
  (obtain ⟨y0, y1, y2, y3, y4, y5, y6, y7, y8, y9, y10, y11, y12, y13, y14, y15⟩ := tm; obtain ⟨x0, x1, x2, x3, x4, x5, x6, x7, x8, x9, x10, x11, x12, x13, x14, x15⟩ := y0; obtain ⟨x16, x17, x18, x19, x20, x21, x22, x23, x24, x25, x26, x27, x28, x29, x30, x31⟩ := y1; obtain ⟨x240, x241, x242, x243, x244, x245, x246, x247, x248, x249, x250, x251, x252, x253, x254, x255⟩ := y15)
  cases e0
  cases e3
  cases e4
  cases e255
  have hpow : 10 ^ i ≤ 10 ^ 9 := Nat.pow_le_pow_right (by omega) (by omega)
  have hdi := hdig i
  have hst := fun h => @numP_step i len n a h
  by_cases hlt : i < len
  · have hdi := hdi hlt
    have hst := hst hlt
    clear hdig
    repeat' ((conv => lhs; whnf); first | ((conv => lhs; arg 1; whnf); refine valK_ok ?_) | refine forceB_ok ?_ | refine forceN_add ?_ | refine forceN_sub ?_ | refine forceN_suc ?_ | refine forceN_part ?_ | refine forceN_byte ?_ | refine forceN_ok ?_ | refine forceZ_add ?_ | refine forceZ_mul (by (try simp only [maxK]); omega) ?_ | refine forceZ_sub ?_ | refine forceZ_ok ?_ | refine rowAt_ok (byteRows_get (by (try simp only [maxK]); omega)) ?_ | (apply rowAt_ok; (focus assumption)) | refine br_true (Nat.beq_refl _) ?_ | refine br_true (by assumption) ?_ | refine br_false (by assumption) ?_ | refine br_max (by (try simp only [maxK]); omega) ?_ | refine br_ble_t (by (try simp only [maxK]); omega) ?_ | refine br_ble_f (by (try simp only [maxK]); omega) ?_ | refine br_beq_f (by (try simp only [maxK]); omega) ?_ | refine br_true (by simp only [Bool.and_eq_true, Nat.ble_eq]; (try simp only []); omega) ?_ | (refine br_ble (fun h => ?_) (fun h => ?_) <;> (try simp only [] at h)) | (refine br_beq (fun h => ?_) (fun h => ?_) <;> (try simp only [] at h)) | refine br_split (fun h => ?_) (fun h => ?_) | fail)
    conv => lhs; whnf
    refine hk _ _ _ _ (by omega) ⟨i + 1, 10 * a + (n / 256 ^ i % 256 - 48), rfl, by omega, ?_, rfl, ?_, rfl, rfl, rfl, rfl⟩
    · rw [Nat.pow_succ]
      omega
    · rw [hv, hst, Nat.mul_comm a 10]
  · repeat' ((conv => lhs; whnf); first | ((conv => lhs; arg 1; whnf); refine valK_ok ?_) | refine forceB_ok ?_ | refine forceN_add ?_ | refine forceN_sub ?_ | refine forceN_suc ?_ | refine forceN_part ?_ | refine forceN_byte ?_ | refine forceN_ok ?_ | refine forceZ_add ?_ | refine forceZ_mul (by (try simp only [maxK]); omega) ?_ | refine forceZ_sub ?_ | refine forceZ_ok ?_ | refine rowAt_ok (byteRows_get (by (try simp only [maxK]); omega)) ?_ | (apply rowAt_ok; (focus assumption)) | refine br_true (Nat.beq_refl _) ?_ | refine br_true (by assumption) ?_ | refine br_false (by assumption) ?_ | refine br_max (by (try simp only [maxK]); omega) ?_ | refine br_ble_t (by (try simp only [maxK]); omega) ?_ | refine br_ble_f (by (try simp only [maxK]); omega) ?_ | refine br_beq_f (by (try simp only [maxK]); omega) ?_ | refine br_true (by simp only [Bool.and_eq_true, Nat.ble_eq]; (try simp only []); omega) ?_ | (refine br_ble (fun h => ?_) (fun h => ?_) <;> (try simp only [] at h)) | (refine br_beq (fun h => ?_) (fun h => ?_) <;> (try simp only [] at h)) | refine br_split (fun h => ?_) (fun h => ?_) | fail)
    refine okIf_ok (frz_int ?_)
    rw [hv, show len - i = 0 by omega]
    rfl

noncomputable def ovSign : OvT := ovF fun | [.int .u8 (.ofNat c)] => some (Nat.ble c 255, .bool (signB c)) | _ => none
theorem ovSign_ok : OvOK ρ Tryd.prog 40 ovSign := ov_says fun args v h => by
  split at h
  · injection h with h
    injection h with g1 g2
    subst g2
    exact sign_says _ (by have := Nat.le_of_ble_eq_true g1; omega)
  · cases h

theorem piece_says (len n i : Nat) (hl : len ≤ 140737488355328) (hi : i < len) : Says ρ Tryd.prog 24 [.ps len n, .int .i64 (.ofNat i)] (.tup [.int .i64 (.ofNat (pieceM len n i).1), .int .i64 (.ofNat (pieceM len n i).2)]) := by
  refine says_run (call := over 30 (ovB letterB) (over 31 (ovB digitB) (over 40 ovSign call0))) follows globL_ok (over_ok (ovB_ok rletter_says) (over_ok (ovB_ok rdigit_says) (over_ok ovSign_ok call0_ok))) (fun q hq => by simp at hq; rcases hq with rfl | rfl <;> exact .flat _ rfl) ?_
  have hmod : n / 256 ^ i % 256 < 256 := Nat.mod_lt _ (by omega)
  have hpos : 0 < len - i := by omega
  repeat' ((conv => lhs; whnf); first | ((conv => lhs; arg 1; whnf); refine valK_ok ?_) | refine forceB_ok ?_ | refine forceN_add ?_ | refine forceN_sub ?_ | refine forceN_suc ?_ | refine forceN_part ?_ | refine forceN_byte ?_ | refine forceN_ok ?_ | refine forceZ_add ?_ | refine forceZ_mul (by (try simp only [maxK]); omega) ?_ | refine forceZ_sub ?_ | refine forceZ_ok ?_ | refine rowAt_ok (byteRows_get (by (try simp only [maxK]); omega)) ?_ | (apply rowAt_ok; (focus assumption)) | refine br_true (Nat.beq_refl _) ?_ | refine br_true (by assumption) ?_ | refine br_false (by assumption) ?_ | refine br_max (by (try simp only [maxK]); omega) ?_ | refine br_ble_t (by (try simp only [maxK]); omega) ?_ | refine br_ble_f (by (try simp only [maxK]); omega) ?_ | refine br_beq_f (by (try simp only [maxK]); omega) ?_ | refine br_true (by simp only [Bool.and_eq_true, Nat.ble_eq]; (try simp only []); omega) ?_ | (refine br_ble (fun h => ?_) (fun h => ?_) <;> (try simp only [] at h)) | (refine br_beq (fun h => ?_) (fun h => ?_) <;> (try simp only [] at h)) | refine br_split (fun h => ?_) (fun h => ?_) | fail)
  all_goals (try (conv => lhs; whnf))
  · refine loop_ok (fun m tm hp nx => ∃ K, m = len - K ∧ i ≤ K ∧ K ≤ len ∧ K + runP innerB (len - K) (n / 256 ^ K) = i + runP innerB (len - i) (n / 256 ^ i) ∧ hp = hp0 ∧ get2 tm 0 = .ps len n ∧ get2 tm 1 = .int .i64 (.ofNat i) ∧ get2 tm 6 = .int .i64 (.ofNat K) ∧ get2 tm 255 = .un) (m := len - i) (by omega)
      ⟨i, rfl, by omega, by omega, rfl, rfl, rfl, rfl, rfl, rfl⟩ ?_
    rintro m tm hp nx ⟨K, rfl, hiK, hK, hE, rfl, e0, e1, e6, e255⟩ k hk
    (obtain ⟨y0, y1, y2, y3, y4, y5, y6, y7, y8, y9, y10, y11, y12, y13, y14, y15⟩ := tm; obtain ⟨x0, x1, x2, x3, x4, x5, x6, x7, x8, x9, x10, x11, x12, x13, x14, x15⟩ := y0; obtain ⟨x16, x17, x18, x19, x20, x21, x22, x23, x24, x25, x26, x27, x28, x29, x30, x31⟩ := y1; obtain ⟨x32, x33, x34, x35, x36, x37, x38, x39, x40, x41, x42, x43, x44, x45, x46, x47⟩ := y2; obtain ⟨x48, x49, x50, x51, x52, x53, x54, x55, x56, x57, x58, x59, x60, x61, x62, x63⟩ := y3; obtain ⟨x64, x65, x66, x67, x68, x69, x70, x71, x72, x73, x74, x75, x76, x77, x78, x79⟩ := y4; obtain ⟨x80, x81, x82, x83, x84, x85, x86, x87, x88, x89, x90, x91, x92, x93, x94, x95⟩ := y5; obtain ⟨x240, x241, x242, x243, x244, x245, x246, x247, x248, x249, x250, x251, x252, x253, x254, x255⟩ := y15)
    cases e0
    cases e1
    cases e6
    cases e255
    have hst := fun h => @runP_step innerB K len n h
    have hmodK : n / 256 ^ K % 256 < 256 := Nat.mod_lt _ (by omega)
    have hgo : ∀ (h : K < len), innerB (n / 256 ^ K % 256) = true → K + 1 + runP innerB (len - (K + 1)) (n / 256 ^ (K + 1)) = i + runP innerB (len - i) (n / 256 ^ i) := fun h hb => by
      rw [← hE, hst h, hb]
    have hend : (K < len → innerB (n / 256 ^ K % 256) = false) → K = i + runP innerB (len - i) (n / 256 ^ i) := fun hb => by
      rcases Nat.lt_or_ge K len with g | g
      · rw [← hE, hst g, hb g]
      · rw [← hE, show len - K = 0 by omega]; rfl
    clear hst hE
    repeat' ((conv => lhs; whnf); first | ((conv => lhs; arg 1; whnf); refine valK_ok ?_) | refine forceB_ok ?_ | refine forceN_add ?_ | refine forceN_sub ?_ | refine forceN_suc ?_ | refine forceN_part ?_ | refine forceN_byte ?_ | refine forceN_ok ?_ | refine forceZ_add ?_ | refine forceZ_mul (by (try simp only [maxK]); omega) ?_ | refine forceZ_sub ?_ | refine forceZ_ok ?_ | refine rowAt_ok (byteRows_get (by (try simp only [maxK]); omega)) ?_ | (apply rowAt_ok; (focus assumption)) | refine br_true (Nat.beq_refl _) ?_ | refine br_true (by assumption) ?_ | refine br_false (by assumption) ?_ | refine br_max (by (try simp only [maxK]); omega) ?_ | refine br_ble_t (by (try simp only [maxK]); omega) ?_ | refine br_ble_f (by (try simp only [maxK]); omega) ?_ | refine br_beq_f (by (try simp only [maxK]); omega) ?_ | refine br_true (by simp only [Bool.and_eq_true, Nat.ble_eq]; (try simp only []); omega) ?_ | (refine br_ble (fun h => ?_) (fun h => ?_) <;> (try simp only [] at h)) | (refine br_beq (fun h => ?_) (fun h => ?_) <;> (try simp only [] at h)) | refine br_split (fun h => ?_) (fun h => ?_) | fail)
    all_goals (try (conv => lhs; whnf))
    all_goals first
      | exact hk _ _ _ _ (by omega) ⟨K + 1, rfl, by omega, by omega, hgo (by omega) (by rw [innerB, ‹letterB (n / 256 ^ K % 256) = true›]; rfl), rfl, rfl, rfl, rfl, rfl⟩
      | exact hk _ _ _ _ (by omega) ⟨K + 1, rfl, by omega, by omega, hgo (by omega) (by rw [innerB, ‹letterB (n / 256 ^ K % 256) = false›, ‹digitB (n / 256 ^ K % 256) = true›]; rfl), rfl, rfl, rfl, rfl, rfl⟩
      | exact hk _ _ _ _ (by omega) ⟨K + 1, rfl, by omega, by omega, hgo (by omega) (by rw [innerB, ‹letterB (n / 256 ^ K % 256) = false›, ‹digitB (n / 256 ^ K % 256) = false›, ‹n / 256 ^ K % 256 = 95›]; rfl), rfl, rfl, rfl, rfl, rfl⟩
      | skip
    all_goals (
      have hKe := hend (fun hlt => by first | omega | (rw [innerB, ‹letterB (n / 256 ^ K % 256) = false›, ‹digitB (n / 256 ^ K % 256) = false›, beq_false_iff.mpr ‹n / 256 ^ K % 256 ≠ 95›]; rfl))
      refine okIf_ok (frz_cons (frz_int ?_) (frz_cons (frz_int ?_) frz_nil)) <;> first
        | (rw [pieceM, tok_word hpos ‹letterB (n / 256 ^ i % 256) = true› (by omega)]; first | rfl | exact congrArg Int.ofNat hKe)
        | (rw [pieceM, tok_wordNo hpos ‹letterB (n / 256 ^ i % 256) = true› (by omega)]; rfl))
  · refine loop_ok (fun m tm hp nx => ∃ K, m = len - K ∧ i ≤ K ∧ K ≤ len ∧ K + runP digitB (len - K) (n / 256 ^ K) = i + runP digitB (len - i) (n / 256 ^ i) ∧ hp = hp0 ∧ get2 tm 0 = .ps len n ∧ get2 tm 1 = .int .i64 (.ofNat i) ∧ get2 tm 6 = .int .i64 (.ofNat K) ∧ get2 tm 255 = .un) (m := len - i) (by omega)
      ⟨i, rfl, by omega, by omega, rfl, rfl, rfl, rfl, rfl, rfl⟩ ?_
    rintro m tm hp nx ⟨K, rfl, hiK, hK, hE, rfl, e0, e1, e6, e255⟩ k hk
    (obtain ⟨y0, y1, y2, y3, y4, y5, y6, y7, y8, y9, y10, y11, y12, y13, y14, y15⟩ := tm; obtain ⟨x0, x1, x2, x3, x4, x5, x6, x7, x8, x9, x10, x11, x12, x13, x14, x15⟩ := y0; obtain ⟨x16, x17, x18, x19, x20, x21, x22, x23, x24, x25, x26, x27, x28, x29, x30, x31⟩ := y1; obtain ⟨x32, x33, x34, x35, x36, x37, x38, x39, x40, x41, x42, x43, x44, x45, x46, x47⟩ := y2; obtain ⟨x48, x49, x50, x51, x52, x53, x54, x55, x56, x57, x58, x59, x60, x61, x62, x63⟩ := y3; obtain ⟨x64, x65, x66, x67, x68, x69, x70, x71, x72, x73, x74, x75, x76, x77, x78, x79⟩ := y4; obtain ⟨x80, x81, x82, x83, x84, x85, x86, x87, x88, x89, x90, x91, x92, x93, x94, x95⟩ := y5; obtain ⟨x240, x241, x242, x243, x244, x245, x246, x247, x248, x249, x250, x251, x252, x253, x254, x255⟩ := y15)
    cases e0
    cases e1
    cases e6
    cases e255
    have hst := fun h => @runP_step digitB K len n h
    have hmodK : n / 256 ^ K % 256 < 256 := Nat.mod_lt _ (by omega)
    have hgo : ∀ (h : K < len), digitB (n / 256 ^ K % 256) = true → K + 1 + runP digitB (len - (K + 1)) (n / 256 ^ (K + 1)) = i + runP digitB (len - i) (n / 256 ^ i) := fun h hb => by
      rw [← hE, hst h, hb]
    have hend : (K < len → digitB (n / 256 ^ K % 256) = false) → K = i + runP digitB (len - i) (n / 256 ^ i) := fun hb => by
      rcases Nat.lt_or_ge K len with g | g
      · rw [← hE, hst g, hb g]
      · rw [← hE, show len - K = 0 by omega]; rfl
    clear hst hE
    repeat' ((conv => lhs; whnf); first | ((conv => lhs; arg 1; whnf); refine valK_ok ?_) | refine forceB_ok ?_ | refine forceN_add ?_ | refine forceN_sub ?_ | refine forceN_suc ?_ | refine forceN_part ?_ | refine forceN_byte ?_ | refine forceN_ok ?_ | refine forceZ_add ?_ | refine forceZ_mul (by (try simp only [maxK]); omega) ?_ | refine forceZ_sub ?_ | refine forceZ_ok ?_ | refine rowAt_ok (byteRows_get (by (try simp only [maxK]); omega)) ?_ | (apply rowAt_ok; (focus assumption)) | refine br_true (Nat.beq_refl _) ?_ | refine br_true (by assumption) ?_ | refine br_false (by assumption) ?_ | refine br_max (by (try simp only [maxK]); omega) ?_ | refine br_ble_t (by (try simp only [maxK]); omega) ?_ | refine br_ble_f (by (try simp only [maxK]); omega) ?_ | refine br_beq_f (by (try simp only [maxK]); omega) ?_ | refine br_true (by simp only [Bool.and_eq_true, Nat.ble_eq]; (try simp only []); omega) ?_ | (refine br_ble (fun h => ?_) (fun h => ?_) <;> (try simp only [] at h)) | (refine br_beq (fun h => ?_) (fun h => ?_) <;> (try simp only [] at h)) | refine br_split (fun h => ?_) (fun h => ?_) | fail)
    all_goals (try (conv => lhs; whnf))
    all_goals first
      | exact hk _ _ _ _ (by omega) ⟨K + 1, rfl, by omega, by omega, hgo (by omega) ‹digitB (n / 256 ^ K % 256) = true›, rfl, rfl, rfl, rfl, rfl⟩
      | skip
    all_goals (
      have hKe := hend (fun hlt => by first | omega | exact ‹digitB (n / 256 ^ K % 256) = false›)
      refine okIf_ok (frz_cons (frz_int ?_) (frz_cons (frz_int ?_) frz_nil)) <;> first
        | (rw [pieceM, tok_num hpos ‹letterB (n / 256 ^ i % 256) = false› ‹digitB (n / 256 ^ i % 256) = true› (by omega) (by omega)]; first | rfl | exact congrArg Int.ofNat hKe)
        | (rw [pieceM, tok_numNo hpos ‹letterB (n / 256 ^ i % 256) = false› ‹digitB (n / 256 ^ i % 256) = true› (by omega)]; rfl))
  · refine okIf_ok (frz_cons (frz_int ?_) (frz_cons (frz_int ?_) frz_nil)) <;> rw [pieceM, tok_sign hpos ‹letterB _ = false› ‹digitB _ = false› ‹signB _ = true›] <;> rfl
  · refine okIf_ok (frz_cons (frz_int ?_) (frz_cons (frz_int ?_) frz_nil)) <;> rw [pieceM, tok_none hpos ‹letterB _ = false› ‹digitB _ = false› ‹signB _ = false›] <;> rfl

end Go.Proofs.YtjljgldgkkfckaaDoor.M

/- The document's lexer: all tokens. -/
namespace Go.Proofs.YtjljgldgkkfckaaDoor.M
open Go
set_option linter.unusedSimpArgs false
set_option linter.unusedVariables false
variable {ρ : Nat → Value}

attribute [local irreducible] forceN forceZ forceB okIf roundsK valK rowAt
attribute [local irreducible] acc4 get4 put4
set_option maxRecDepth 100000

noncomputable def ovPiece : OvT := fun args _ hp nx kr _ => match args with
  | [.ps len n, .int .i64 (.ofNat i)] => must (Nat.ble len 140737488355328) (must (Nat.ble (Nat.succ i) len)
      (optX (tokM (len - i) (n / 256 ^ i)) (kr (.tup [.int .i64 (.ofNat 0), .int .i64 (.ofNat 0)]) hp nx) (fun t => kr (.tup [.int .i64 (.ofNat t.1), .int .i64 (.ofNat (i + t.2.2))]) hp nx)))
  | _ => .err 1
theorem ovPiece_ok : OvOK ρ Tryd.prog 24 ovPiece := by
  intro args forb hp nx kr kp h0
  unfold ovPiece at h0
  split at h0
  · rename_i len n i
    obtain ⟨c1, h1⟩ := must_inv h0
    obtain ⟨c2, h2⟩ := must_inv h1
    refine (piece_says len n i (Nat.le_of_ble_eq_true c1) (Nat.le_of_ble_eq_true c2) (absO hp) nx (inL forb)).mono ?_
    rintro o O m ⟨e1, e2, e3⟩
    subst e1 e2 e3
    rcases optX_inv h2 with ⟨e, h3⟩ | ⟨⟨a, b, c⟩, e, h3⟩
    · refine ⟨hp, rfl, ?_⟩
      rw [pieceM, e]
      exact h3
    · refine ⟨hp, rfl, ?_⟩
      rw [pieceM, e]
      exact h3
  · exact Ans.no h0

noncomputable def ovNumber : OvT := ovF fun
  | [.ps len n] => some (Nat.ble len 9 && Nat.beq (runP digitB len n) len, .int .i64 (.ofNat (numP len n 0)))
  | _ => none
theorem ovNumber_ok : OvOK ρ Tryd.prog 25 ovNumber := ov_says fun args v h => by
  split at h
  · injection h with h
    injection h with g1 g2
    subst g2
    simp only [Bool.and_eq_true, Nat.ble_eq, Nat.beq_eq] at g1
    exact number_says _ _ g1.1 g1.2
  · cases h

theorem nomul {l : Nat} (h : 140737488355328 < (l + 1) * 48) (h2 : l < 100000) : False := by omega

set_option maxHeartbeats 8000000 in
theorem rtokens_says (len n : Nat) (hl : len ≤ 16384) : Says ρ Tryd.prog 11 [.ps len n] (toksOut (toksF (len + 1) len n 1 1)) := by
  refine says_run (call := over 24 ovPiece (over 25 ovNumber call0)) follows globL_ok (over_ok ovPiece_ok (over_ok ovNumber_ok call0_ok)) (arg1 rfl) ?_
  repeat' (first | ((conv => lhs; whnf); first | ((conv => lhs; arg 1; whnf); refine valK_ok ?_) | refine forceB_ok ?_ | refine forceN_add ?_ | refine forceN_sub ?_ | refine forceN_suc ?_ | refine forceN_part ?_ | refine forceN_byte ?_ | refine forceN_ok ?_ | refine forceZ_add ?_ | refine forceZ_mul (by (try simp only [maxK]); omega) ?_ | refine forceZ_sub ?_ | refine forceZ_ok ?_ | refine rowAt_ok (byteRows_get (by (try simp only [maxK]); omega)) ?_ | (apply rowAt_ok; (focus assumption)) | refine br_true (Nat.beq_refl _) ?_ | refine br_true (by assumption) ?_ | refine br_false (by assumption) ?_ | refine br_max (by (try simp only [maxK]); omega) ?_ | refine br_ble_t (by (try simp only [maxK]); omega) ?_ | refine br_ble_f (by (try simp only [maxK]); omega) ?_ | refine br_beq_f (by (try simp only [maxK]); omega) ?_ | refine br_true (by simp only [Bool.and_eq_true, Nat.ble_eq]; (try simp only []); omega) ?_ | (refine br_ble (fun h => ?_) (fun h => ?_) <;> (try simp only [] at h)) | (refine br_beq (fun h => ?_) (fun h => ?_) <;> (try simp only [] at h)) | refine br_split (fun h => ?_) (fun h => ?_) | fail) | ((conv => lhs; whnf); first | refine acc4_upd_ok (by omega) ?_ | refine acc4_get_same (by omega) ?_ | refine acc4_get_other (by omega) (by omega) (by omega) ?_ | refine acc4_get_ok (by omega) (by assumption) ?_ | refine opt3_split (fun h => ?_) (fun kind num tl h => ?_) | refine int_split (fun a h => ?_) (fun a h => ?_) | fail))
  conv => lhs; whnf
  refine loop_ok (fun m tm hp nx => ∃ F i line from_ acc, m = 20000 + F * 20000 - i ∧ i ≤ len ∧ len - i < F + 1 ∧ from_ ≤ i ∧ line ≤ i + 1 ∧ (toksF (F + 1) (len - i) (n / 256 ^ i) line (i - from_ + 1)).pre acc = toksF (len + 1) len n 1 1 ∧ nx + 3 * F ≤ 50000 ∧ acc.length + F = len ∧
    (acc = [] ∧ get2 tm 6 = .sc (.slice none 0 0) ∨ ∃ j, j < nx ∧ get4 hp j = .ls 5 (acc.map Tok.row) ∧ get2 tm 6 = .sl j 0 (acc.map Tok.row).length false) ∧ get2 tm 0 = .ps len n ∧ get2 tm 7 = .int .i64 (.ofNat line) ∧ get2 tm 8 = .int .i64 (.ofNat from_) ∧ get2 tm 9 = .int .i64 (.ofNat i) ∧ get2 tm 255 = .un) (m := 20000 + len * 20000) (by omega)
    ⟨len, 0, 1, 0, [], by omega, by omega, by omega, by omega, by omega, by rw [LexR.pre_nil]; simp, by omega, by simp, .inl ⟨rfl, rfl⟩, rfl, rfl, rfl, rfl, rfl⟩ ?_
  rintro m tm hp nx ⟨F, i, line, from_, acc, rfl, hi, hF, hfr, hli, hres, hnx, hal, hacc, e0, e7, e8, e9, e255⟩ k hk
  have hal2 : (acc.map Tok.row).length = acc.length := by simp
  (obtain ⟨y0, y1, y2, y3, y4, y5, y6, y7, y8, y9, y10, y11, y12, y13, y14, y15⟩ := tm; obtain ⟨x0, x1, x2, x3, x4, x5, x6, x7, x8, x9, x10, x11, x12, x13, x14, x15⟩ := y0; obtain ⟨x16, x17, x18, x19, x20, x21, x22, x23, x24, x25, x26, x27, x28, x29, x30, x31⟩ := y1; obtain ⟨x32, x33, x34, x35, x36, x37, x38, x39, x40, x41, x42, x43, x44, x45, x46, x47⟩ := y2; obtain ⟨x48, x49, x50, x51, x52, x53, x54, x55, x56, x57, x58, x59, x60, x61, x62, x63⟩ := y3; obtain ⟨x64, x65, x66, x67, x68, x69, x70, x71, x72, x73, x74, x75, x76, x77, x78, x79⟩ := y4; obtain ⟨x80, x81, x82, x83, x84, x85, x86, x87, x88, x89, x90, x91, x92, x93, x94, x95⟩ := y5; obtain ⟨x96, x97, x98, x99, x100, x101, x102, x103, x104, x105, x106, x107, x108, x109, x110, x111⟩ := y6; obtain ⟨x240, x241, x242, x243, x244, x245, x246, x247, x248, x249, x250, x251, x252, x253, x254, x255⟩ := y15)
  cases e0
  cases e7
  cases e8
  cases e9
  cases e255
  have hmod : n / 256 ^ i % 256 < 256 := Nat.mod_lt _ (by omega)
  rcases hacc with ⟨ea, e6⟩ | ⟨j, hj, hob, e6⟩
  · subst ea
    cases e6
    repeat' (first | ((conv => lhs; whnf); first | ((conv => lhs; arg 1; whnf); refine valK_ok ?_) | refine forceB_ok ?_ | refine forceN_add ?_ | refine forceN_sub ?_ | refine forceN_suc ?_ | refine forceN_part ?_ | refine forceN_byte ?_ | refine forceN_ok ?_ | refine forceZ_add ?_ | refine forceZ_mul (by (try simp only [maxK]); omega) ?_ | refine forceZ_sub ?_ | refine forceZ_ok ?_ | refine rowAt_ok (byteRows_get (by (try simp only [maxK]); omega)) ?_ | (apply rowAt_ok; (focus assumption)) | refine br_true (Nat.beq_refl _) ?_ | refine br_true (by assumption) ?_ | refine br_false (by assumption) ?_ | refine br_max (by (try simp only [maxK]); omega) ?_ | refine br_ble_t (by (try simp only [maxK]); omega) ?_ | refine br_ble_f (by (try simp only [maxK]); omega) ?_ | refine br_beq_f (by (try simp only [maxK]); omega) ?_ | refine br_true (by simp only [Bool.and_eq_true, Nat.ble_eq]; (try simp only []); omega) ?_ | (refine br_ble (fun h => ?_) (fun h => ?_) <;> (try simp only [] at h)) | (refine br_beq (fun h => ?_) (fun h => ?_) <;> (try simp only [] at h)) | refine br_split (fun h => ?_) (fun h => ?_) | fail) | ((conv => lhs; whnf); first | refine acc4_upd_ok (by omega) ?_ | refine acc4_get_same (by omega) ?_ | refine acc4_get_other (by omega) (by omega) (by omega) ?_ | refine acc4_get_ok (by omega) (by assumption) ?_ | refine opt3_split (fun h => ?_) (fun kind num tl h => ?_) | refine int_split (fun a h => ?_) (fun a h => ?_) | fail))
    all_goals (try (conv => lhs; whnf))
    · rw [tp_line (by omega) ‹n / 256 ^ i % 256 = 10›] at hres
      exact hk _ _ _ _ (by omega) ⟨F, i + 1, line + 1, i + 1, [], rfl, by omega, by omega, by omega, by omega, hres, hnx, hal, .inl ⟨rfl, rfl⟩, rfl, rfl, rfl, rfl, rfl⟩
    · rw [tp_blank (by omega) hfr (.inl ‹n / 256 ^ i % 256 = 32›)] at hres
      exact hk _ _ _ _ (by omega) ⟨F, i + 1, line, from_, [], rfl, by omega, by omega, by omega, by omega, hres, hnx, hal, .inl ⟨rfl, rfl⟩, rfl, rfl, rfl, rfl, rfl⟩
    · rw [tp_blank (by omega) hfr (.inr ‹n / 256 ^ i % 256 = 9›)] at hres
      exact hk _ _ _ _ (by omega) ⟨F, i + 1, line, from_, [], rfl, by omega, by omega, by omega, by omega, hres, hnx, hal, .inl ⟨rfl, rfl⟩, rfl, rfl, rfl, rfl, rfl⟩
    · rw [tp_rem (by omega) hfr ‹n / 256 ^ i % 256 = 35›] at hres
      have hrl := runP_le lineB (len - i) (n / 256 ^ i)
      have hrp : 0 < runP lineB (len - i) (n / 256 ^ i) := runP_pos (by omega) (by rw [‹n / 256 ^ i % 256 = 35›]; rfl)
      refine loop_ok (fun m tm hp' nx' => ∃ K, m = len - K ∧ i ≤ K ∧ K ≤ len ∧ K + runP lineB (len - K) (n / 256 ^ K) = i + runP lineB (len - i) (n / 256 ^ i) ∧ hp' = hp ∧ nx' = nx ∧ get2 tm 0 = .ps len n ∧ get2 tm 6 = .sc (.slice none 0 0) ∧ get2 tm 7 = .int .i64 (.ofNat line) ∧ get2 tm 8 = .int .i64 (.ofNat from_) ∧ get2 tm 9 = .int .i64 (.ofNat K) ∧ get2 tm 255 = .un) (m := len - i) (by omega)
        ⟨i, rfl, by omega, by omega, rfl, rfl, rfl, rfl, rfl, rfl, rfl, rfl, rfl⟩ ?_
      rintro m tm hp' nx' ⟨K, rfl, hiK, hK, hE, ehp, enx, e0, e6, e7, e8, e9, e255⟩ k2 hk2
      subst ehp enx
      (obtain ⟨y0, y1, y2, y3, y4, y5, y6, y7, y8, y9, y10, y11, y12, y13, y14, y15⟩ := tm; obtain ⟨x0, x1, x2, x3, x4, x5, x6, x7, x8, x9, x10, x11, x12, x13, x14, x15⟩ := y0; obtain ⟨x16, x17, x18, x19, x20, x21, x22, x23, x24, x25, x26, x27, x28, x29, x30, x31⟩ := y1; obtain ⟨x32, x33, x34, x35, x36, x37, x38, x39, x40, x41, x42, x43, x44, x45, x46, x47⟩ := y2; obtain ⟨x48, x49, x50, x51, x52, x53, x54, x55, x56, x57, x58, x59, x60, x61, x62, x63⟩ := y3; obtain ⟨x64, x65, x66, x67, x68, x69, x70, x71, x72, x73, x74, x75, x76, x77, x78, x79⟩ := y4; obtain ⟨x80, x81, x82, x83, x84, x85, x86, x87, x88, x89, x90, x91, x92, x93, x94, x95⟩ := y5; obtain ⟨x96, x97, x98, x99, x100, x101, x102, x103, x104, x105, x106, x107, x108, x109, x110, x111⟩ := y6; obtain ⟨x240, x241, x242, x243, x244, x245, x246, x247, x248, x249, x250, x251, x252, x253, x254, x255⟩ := y15)
      cases e0
      cases e6
      cases e7
      cases e8
      cases e9
      cases e255
      have hst := fun h => @runP_step lineB K len n h
      repeat' ((conv => lhs; whnf); first | ((conv => lhs; arg 1; whnf); refine valK_ok ?_) | refine forceB_ok ?_ | refine forceN_add ?_ | refine forceN_sub ?_ | refine forceN_suc ?_ | refine forceN_part ?_ | refine forceN_byte ?_ | refine forceN_ok ?_ | refine forceZ_add ?_ | refine forceZ_mul (by (try simp only [maxK]); omega) ?_ | refine forceZ_sub ?_ | refine forceZ_ok ?_ | refine rowAt_ok (byteRows_get (by (try simp only [maxK]); omega)) ?_ | (apply rowAt_ok; (focus assumption)) | refine br_true (Nat.beq_refl _) ?_ | refine br_true (by assumption) ?_ | refine br_false (by assumption) ?_ | refine br_max (by (try simp only [maxK]); omega) ?_ | refine br_ble_t (by (try simp only [maxK]); omega) ?_ | refine br_ble_f (by (try simp only [maxK]); omega) ?_ | refine br_beq_f (by (try simp only [maxK]); omega) ?_ | refine br_true (by simp only [Bool.and_eq_true, Nat.ble_eq]; (try simp only []); omega) ?_ | (refine br_ble (fun h => ?_) (fun h => ?_) <;> (try simp only [] at h)) | (refine br_beq (fun h => ?_) (fun h => ?_) <;> (try simp only [] at h)) | refine br_split (fun h => ?_) (fun h => ?_) | fail)
      all_goals (try (conv => lhs; whnf))
      all_goals first
      | (have h10 := ‹n / 256 ^ K % 256 ≠ 10›
         refine hk2 _ _ _ _ (by omega) ⟨K + 1, rfl, by omega, by omega, ?_, rfl, rfl, rfl, rfl, rfl, rfl, rfl, rfl⟩
         rw [← hE, hst (by omega), show lineB (n / 256 ^ K % 256) = true by rw [lineB, beq_false_iff.mpr h10]; rfl])
      | (
        have hKe : i + runP lineB (len - i) (n / 256 ^ i) = K := by
          rcases Nat.lt_or_ge K len with g | g
          · rw [← hE, hst g, show lineB (n / 256 ^ K % 256) = false by first | (rw [lineB, ‹n / 256 ^ K % 256 = 10›]; rfl) | omega]
          · rw [← hE, show len - K = 0 by omega]; rfl
        rw [hKe] at hres
        exact hk _ _ _ _ (by omega) ⟨F, K, line, from_, [], rfl, by omega, by omega, by omega, by omega, hres, hnx, hal, .inl ⟨rfl, rfl⟩, rfl, rfl, rfl, rfl, rfl⟩)
    · rw [tp_bad ⟨‹_›, ‹_›, ‹_›, ‹_›⟩ ‹_›] at hres
      rw [← hres]
      exact okIf_ok (frz_cons (.flat _ rfl) (frz_cons (frz_int rfl) (frz_cons (frz_int rfl) (frz_cons (frz_int rfl) frz_nil))))
    · exact absurd ‹_› (tokM_kind ‹tokM (len - i) (n / 256 ^ i) = some _›)
    · have h2 := ‹kind = 2›
      subst h2
      have ht := ‹tokM (len - i) (n / 256 ^ i) = some (2, num, tl)›
      obtain ⟨_, _, hnum⟩ := tokM_num ht
      obtain ⟨hle, ⟨hk4, _⟩ | ⟨hk4, htl⟩⟩ := tokM_facts ht
      · exact absurd hk4 (by omega)
      have e1 : i + tl - i = tl := Nat.add_sub_cancel_left ..
      rw [tp_more hfr ⟨‹_›, ‹_›, ‹_›, ‹_›⟩ ht hk4, LexR.pre_pre] at hres
      obtain ⟨G, rfl⟩ : ∃ G, F = G + 1 := ⟨F - 1, by omega⟩
      have hal3 : 0 + (G + 1) = len := hal
      refine hk _ _ _ _ ?_ ⟨G, i + tl, line, from_, _, rfl, by omega, by omega, by omega, by omega, hres, by omega, ?_, .inr ⟨nx + 1 + 1, by omega, ?_, ?_⟩, rfl, rfl, rfl, rfl, rfl⟩
      · omega
      · simp; omega
      · refine (get4_same (by omega)).trans ?_
        show KOb.ls 5 [[.int .i64 (.ofNat 2), .int .i64 (.ofNat (numP (i + tl - i) (n / 256 ^ i % 256 ^ (i + tl - i)) 0)), .int .i64 (.ofNat line), .int .i64 (.ofNat (i - from_ + 1)), .ps (i + tl - i) (n / 256 ^ i % 256 ^ (i + tl - i))]] = KOb.ls 5 [Tok.row ⟨2, num, line, i - from_ + 1, tl, n / 256 ^ i % 256 ^ tl⟩]
        rw [e1, ← hnum]
        rfl
      · rfl
    · have h2 := ‹kind = 2›
      subst h2
      have ht := ‹tokM (len - i) (n / 256 ^ i) = some (2, num, tl)›
      obtain ⟨h9, hrun, hnum⟩ := tokM_num ht
      have e1 : i + tl - i = tl := Nat.add_sub_cancel_left ..
      have h3 : (Nat.ble (i + tl - i) 9 && Nat.beq (runP digitB (i + tl - i) (n / 256 ^ i % 256 ^ (i + tl - i))) (i + tl - i)) = false := h
      rw [e1, hrun, Nat.ble_eq_true_of_le h9] at h3
      simp at h3
    · have ht := ‹tokM (len - i) (n / 256 ^ i) = some (kind, num, tl)›
      have hnum := tokM_other ht ‹kind ≠ 2›
      obtain ⟨hle, ⟨hk4, _⟩ | ⟨hk4, htl⟩⟩ := tokM_facts ht
      · exact absurd hk4 (by omega)
      have e1 : i + tl - i = tl := Nat.add_sub_cancel_left ..
      rw [tp_more hfr ⟨‹_›, ‹_›, ‹_›, ‹_›⟩ ht hk4, LexR.pre_pre] at hres
      obtain ⟨G, rfl⟩ : ∃ G, F = G + 1 := ⟨F - 1, by omega⟩
      have hal3 : 0 + (G + 1) = len := hal
      refine hk _ _ _ _ ?_ ⟨G, i + tl, line, from_, _, rfl, by omega, by omega, by omega, by omega, hres, by omega, ?_, .inr ⟨nx + 1 + 1, by omega, ?_, ?_⟩, rfl, rfl, rfl, rfl, rfl⟩
      · omega
      · simp; omega
      · refine (get4_same (by omega)).trans ?_
        show KOb.ls 5 [[.int .i64 (.ofNat kind), .int .i64 (.ofNat 0), .int .i64 (.ofNat line), .int .i64 (.ofNat (i - from_ + 1)), .ps (i + tl - i) (n / 256 ^ i % 256 ^ (i + tl - i))]] = KOb.ls 5 [Tok.row ⟨kind, num, line, i - from_ + 1, tl, n / 256 ^ i % 256 ^ tl⟩]
        rw [e1, hnum]
        rfl
      · rfl
    · have ht := ‹tokM (len - i) (n / 256 ^ i) = some (kind, num, tl)›
      have hle := (tokM_facts ht).1
      omega
    · have hle : i = len := by omega
      subst hle
      rw [tp_end, LexR.pre] at hres
      rw [← hres]
      refine okIf_ok (frz_cons (frz_ls (by omega) rfl ?_ rfl toks_flat) (frz_cons (frz_int rfl) (frz_cons (frz_int rfl) (frz_cons (frz_int rfl) frz_nil))))
      rfl
  · cases e6
    repeat' (first | ((conv => lhs; whnf); first | ((conv => lhs; arg 1; whnf); refine valK_ok ?_) | refine forceB_ok ?_ | refine forceN_add ?_ | refine forceN_sub ?_ | refine forceN_suc ?_ | refine forceN_part ?_ | refine forceN_byte ?_ | refine forceN_ok ?_ | refine forceZ_add ?_ | refine forceZ_mul (by (try simp only [maxK]); omega) ?_ | refine forceZ_sub ?_ | refine forceZ_ok ?_ | refine rowAt_ok (byteRows_get (by (try simp only [maxK]); omega)) ?_ | (apply rowAt_ok; (focus assumption)) | refine br_true (Nat.beq_refl _) ?_ | refine br_true (by assumption) ?_ | refine br_false (by assumption) ?_ | refine br_max (by (try simp only [maxK]); omega) ?_ | refine br_ble_t (by (try simp only [maxK]); omega) ?_ | refine br_ble_f (by (try simp only [maxK]); omega) ?_ | refine br_beq_f (by (try simp only [maxK]); omega) ?_ | refine br_true (by simp only [Bool.and_eq_true, Nat.ble_eq]; (try simp only []); omega) ?_ | (refine br_ble (fun h => ?_) (fun h => ?_) <;> (try simp only [] at h)) | (refine br_beq (fun h => ?_) (fun h => ?_) <;> (try simp only [] at h)) | refine br_split (fun h => ?_) (fun h => ?_) | fail) | ((conv => lhs; whnf); first | refine acc4_upd_ok (by omega) ?_ | refine acc4_get_same (by omega) ?_ | refine acc4_get_other (by omega) (by omega) (by omega) ?_ | refine acc4_get_ok (by omega) (by assumption) ?_ | refine opt3_split (fun h => ?_) (fun kind num tl h => ?_) | refine int_split (fun a h => ?_) (fun a h => ?_) | fail))
    all_goals (try (conv => lhs; whnf))
    · rw [tp_line (by omega) ‹n / 256 ^ i % 256 = 10›] at hres
      exact hk _ _ _ _ (by omega) ⟨F, i + 1, line + 1, i + 1, acc, rfl, by omega, by omega, by omega, by omega, hres, hnx, hal, .inr ⟨j, hj, hob, rfl⟩, rfl, rfl, rfl, rfl, rfl⟩
    · rw [tp_blank (by omega) hfr (.inl ‹n / 256 ^ i % 256 = 32›)] at hres
      exact hk _ _ _ _ (by omega) ⟨F, i + 1, line, from_, acc, rfl, by omega, by omega, by omega, by omega, hres, hnx, hal, .inr ⟨j, hj, hob, rfl⟩, rfl, rfl, rfl, rfl, rfl⟩
    · rw [tp_blank (by omega) hfr (.inr ‹n / 256 ^ i % 256 = 9›)] at hres
      exact hk _ _ _ _ (by omega) ⟨F, i + 1, line, from_, acc, rfl, by omega, by omega, by omega, by omega, hres, hnx, hal, .inr ⟨j, hj, hob, rfl⟩, rfl, rfl, rfl, rfl, rfl⟩
    · rw [tp_rem (by omega) hfr ‹n / 256 ^ i % 256 = 35›] at hres
      have hrl := runP_le lineB (len - i) (n / 256 ^ i)
      have hrp : 0 < runP lineB (len - i) (n / 256 ^ i) := runP_pos (by omega) (by rw [‹n / 256 ^ i % 256 = 35›]; rfl)
      refine loop_ok (fun m tm hp' nx' => ∃ K, m = len - K ∧ i ≤ K ∧ K ≤ len ∧ K + runP lineB (len - K) (n / 256 ^ K) = i + runP lineB (len - i) (n / 256 ^ i) ∧ hp' = hp ∧ nx' = nx ∧ get2 tm 0 = .ps len n ∧ get2 tm 6 = .sl j 0 (acc.map Tok.row).length false ∧ get2 tm 7 = .int .i64 (.ofNat line) ∧ get2 tm 8 = .int .i64 (.ofNat from_) ∧ get2 tm 9 = .int .i64 (.ofNat K) ∧ get2 tm 255 = .un) (m := len - i) (by omega)
        ⟨i, rfl, by omega, by omega, rfl, rfl, rfl, rfl, rfl, rfl, rfl, rfl, rfl⟩ ?_
      rintro m tm hp' nx' ⟨K, rfl, hiK, hK, hE, ehp, enx, e0, e6, e7, e8, e9, e255⟩ k2 hk2
      subst ehp enx
      (obtain ⟨y0, y1, y2, y3, y4, y5, y6, y7, y8, y9, y10, y11, y12, y13, y14, y15⟩ := tm; obtain ⟨x0, x1, x2, x3, x4, x5, x6, x7, x8, x9, x10, x11, x12, x13, x14, x15⟩ := y0; obtain ⟨x16, x17, x18, x19, x20, x21, x22, x23, x24, x25, x26, x27, x28, x29, x30, x31⟩ := y1; obtain ⟨x32, x33, x34, x35, x36, x37, x38, x39, x40, x41, x42, x43, x44, x45, x46, x47⟩ := y2; obtain ⟨x48, x49, x50, x51, x52, x53, x54, x55, x56, x57, x58, x59, x60, x61, x62, x63⟩ := y3; obtain ⟨x64, x65, x66, x67, x68, x69, x70, x71, x72, x73, x74, x75, x76, x77, x78, x79⟩ := y4; obtain ⟨x80, x81, x82, x83, x84, x85, x86, x87, x88, x89, x90, x91, x92, x93, x94, x95⟩ := y5; obtain ⟨x96, x97, x98, x99, x100, x101, x102, x103, x104, x105, x106, x107, x108, x109, x110, x111⟩ := y6; obtain ⟨x240, x241, x242, x243, x244, x245, x246, x247, x248, x249, x250, x251, x252, x253, x254, x255⟩ := y15)
      cases e0
      cases e6
      cases e7
      cases e8
      cases e9
      cases e255
      have hst := fun h => @runP_step lineB K len n h
      repeat' ((conv => lhs; whnf); first | ((conv => lhs; arg 1; whnf); refine valK_ok ?_) | refine forceB_ok ?_ | refine forceN_add ?_ | refine forceN_sub ?_ | refine forceN_suc ?_ | refine forceN_part ?_ | refine forceN_byte ?_ | refine forceN_ok ?_ | refine forceZ_add ?_ | refine forceZ_mul (by (try simp only [maxK]); omega) ?_ | refine forceZ_sub ?_ | refine forceZ_ok ?_ | refine rowAt_ok (byteRows_get (by (try simp only [maxK]); omega)) ?_ | (apply rowAt_ok; (focus assumption)) | refine br_true (Nat.beq_refl _) ?_ | refine br_true (by assumption) ?_ | refine br_false (by assumption) ?_ | refine br_max (by (try simp only [maxK]); omega) ?_ | refine br_ble_t (by (try simp only [maxK]); omega) ?_ | refine br_ble_f (by (try simp only [maxK]); omega) ?_ | refine br_beq_f (by (try simp only [maxK]); omega) ?_ | refine br_true (by simp only [Bool.and_eq_true, Nat.ble_eq]; (try simp only []); omega) ?_ | (refine br_ble (fun h => ?_) (fun h => ?_) <;> (try simp only [] at h)) | (refine br_beq (fun h => ?_) (fun h => ?_) <;> (try simp only [] at h)) | refine br_split (fun h => ?_) (fun h => ?_) | fail)
      all_goals (try (conv => lhs; whnf))
      all_goals first
      | (have h10 := ‹n / 256 ^ K % 256 ≠ 10›
         refine hk2 _ _ _ _ (by omega) ⟨K + 1, rfl, by omega, by omega, ?_, rfl, rfl, rfl, rfl, rfl, rfl, rfl, rfl⟩
         rw [← hE, hst (by omega), show lineB (n / 256 ^ K % 256) = true by rw [lineB, beq_false_iff.mpr h10]; rfl])
      | (
        have hKe : i + runP lineB (len - i) (n / 256 ^ i) = K := by
          rcases Nat.lt_or_ge K len with g | g
          · rw [← hE, hst g, show lineB (n / 256 ^ K % 256) = false by first | (rw [lineB, ‹n / 256 ^ K % 256 = 10›]; rfl) | omega]
          · rw [← hE, show len - K = 0 by omega]; rfl
        rw [hKe] at hres
        exact hk _ _ _ _ (by omega) ⟨F, K, line, from_, acc, rfl, by omega, by omega, by omega, by omega, hres, hnx, hal, .inr ⟨j, hj, hob, rfl⟩, rfl, rfl, rfl, rfl, rfl⟩)
    · rw [tp_bad ⟨‹_›, ‹_›, ‹_›, ‹_›⟩ ‹_›] at hres
      rw [← hres]
      exact okIf_ok (frz_cons (.flat _ rfl) (frz_cons (frz_int rfl) (frz_cons (frz_int rfl) (frz_cons (frz_int rfl) frz_nil))))
    · exact absurd ‹_› (tokM_kind ‹tokM (len - i) (n / 256 ^ i) = some _›)
    · have h2 := ‹kind = 2›
      subst h2
      have ht := ‹tokM (len - i) (n / 256 ^ i) = some (2, num, tl)›
      obtain ⟨_, _, hnum⟩ := tokM_num ht
      obtain ⟨hle, ⟨hk4, _⟩ | ⟨hk4, htl⟩⟩ := tokM_facts ht
      · exact absurd hk4 (by omega)
      have e1 : i + tl - i = tl := Nat.add_sub_cancel_left ..
      rw [tp_more hfr ⟨‹_›, ‹_›, ‹_›, ‹_›⟩ ht hk4, LexR.pre_pre] at hres
      obtain ⟨G, rfl⟩ : ∃ G, F = G + 1 := ⟨F - 1, by omega⟩
      refine hk _ _ _ _ ?_ ⟨G, i + tl, line, from_, _, rfl, by omega, by omega, by omega, by omega, hres, by omega, ?_, .inr ⟨nx + 1 + 1, by omega, ?_, ?_⟩, rfl, rfl, rfl, rfl, rfl⟩
      · omega
      · simp; omega
      · rw [List.map_append]
        refine (get4_same (by omega)).trans ?_
        rw [List.take_length]
        show KOb.ls 5 (_ ++ [[.int .i64 (.ofNat 2), .int .i64 (.ofNat (numP (i + tl - i) (n / 256 ^ i % 256 ^ (i + tl - i)) 0)), .int .i64 (.ofNat line), .int .i64 (.ofNat (i - from_ + 1)), .ps (i + tl - i) (n / 256 ^ i % 256 ^ (i + tl - i))]]) = KOb.ls 5 (_ ++ [Tok.row ⟨2, num, line, i - from_ + 1, tl, n / 256 ^ i % 256 ^ tl⟩])
        rw [e1, ← hnum]
        rfl
      · rw [List.map_append, List.length_append]
        rfl
    · exact (nomul ‹_› (by omega)).elim
    · have h2 := ‹kind = 2›
      subst h2
      have ht := ‹tokM (len - i) (n / 256 ^ i) = some (2, num, tl)›
      obtain ⟨h9, hrun, hnum⟩ := tokM_num ht
      have e1 : i + tl - i = tl := Nat.add_sub_cancel_left ..
      have h3 : (Nat.ble (i + tl - i) 9 && Nat.beq (runP digitB (i + tl - i) (n / 256 ^ i % 256 ^ (i + tl - i))) (i + tl - i)) = false := h
      rw [e1, hrun, Nat.ble_eq_true_of_le h9] at h3
      simp at h3
    · have ht := ‹tokM (len - i) (n / 256 ^ i) = some (kind, num, tl)›
      have hnum := tokM_other ht ‹kind ≠ 2›
      obtain ⟨hle, ⟨hk4, _⟩ | ⟨hk4, htl⟩⟩ := tokM_facts ht
      · exact absurd hk4 (by omega)
      have e1 : i + tl - i = tl := Nat.add_sub_cancel_left ..
      rw [tp_more hfr ⟨‹_›, ‹_›, ‹_›, ‹_›⟩ ht hk4, LexR.pre_pre] at hres
      obtain ⟨G, rfl⟩ : ∃ G, F = G + 1 := ⟨F - 1, by omega⟩
      refine hk _ _ _ _ ?_ ⟨G, i + tl, line, from_, _, rfl, by omega, by omega, by omega, by omega, hres, by omega, ?_, .inr ⟨nx + 1 + 1, by omega, ?_, ?_⟩, rfl, rfl, rfl, rfl, rfl⟩
      · omega
      · simp; omega
      · rw [List.map_append]
        refine (get4_same (by omega)).trans ?_
        rw [List.take_length]
        show KOb.ls 5 (_ ++ [[.int .i64 (.ofNat kind), .int .i64 (.ofNat 0), .int .i64 (.ofNat line), .int .i64 (.ofNat (i - from_ + 1)), .ps (i + tl - i) (n / 256 ^ i % 256 ^ (i + tl - i))]]) = KOb.ls 5 (_ ++ [Tok.row ⟨kind, num, line, i - from_ + 1, tl, n / 256 ^ i % 256 ^ tl⟩])
        rw [e1, hnum]
        rfl
      · rw [List.map_append, List.length_append]
        rfl
    · exact (nomul ‹_› (by omega)).elim
    · have ht := ‹tokM (len - i) (n / 256 ^ i) = some (kind, num, tl)›
      have hle := (tokM_facts ht).1
      omega
    · have hle : i = len := by omega
      subst hle
      rw [tp_end, LexR.pre] at hres
      rw [← hres]
      refine okIf_ok (frz_cons (frz_ls (by omega) rfl ?_ ?_ toks_flat) (frz_cons (frz_int rfl) (frz_cons (frz_int rfl) (frz_cons (frz_int rfl) frz_nil))))
      · rw [List.take_length, List.map_append]
        rfl
      · simp
    · exact (nomul ‹_› (by omega)).elim

end Go.Proofs.YtjljgldgkkfckaaDoor.M

/- columbarykeep: a number within others, a text's beginning. -/
namespace Go.Proofs.YtjljgldgkkfckaaDoor.M
open Go
set_option linter.unusedSimpArgs false
set_option linter.unusedVariables false
variable {ρ : Nat → Value}

section
open Go.RowKit
attribute [local irreducible] QC QS QFin in
theorem within_says (n : Int) (b : Nat) (hb : 1 ≤ b) : Says ρ Tryd.prog 14 [.int .i64 n, .int .i64 (.ofNat b)] (.int .i64 (withinM n (.ofNat b))) := by
  intro objs next forb
  refine qcalls_body (fun _ => false) Tryd.func14 rfl ?_
  repeat' first
    | refine q_seq ?_
    | refine q_region ?_
    | refine qs_quiet rfl (qq_move (.inl rfl)) (fun t ht => by cases ht; exact of_decide_eq_true rfl) ?_
    | refine qs_quiet rfl (qq_move (.inr rfl)) (fun t ht => by cases ht; exact of_decide_eq_true rfl) ?_
    | refine qs_quiet rfl (qq_binI rfl rfl rfl rfl) (fun t ht => by cases ht; exact of_decide_eq_true rfl) ?_
    | refine qs_quiet rfl (qq_rem rfl rfl rfl (by have : Int.ofNat b = (b : Int) := rfl; omega)) (fun t ht => by cases ht; exact of_decide_eq_true rfl) ?_
    | refine qs_done ?_
    | refine q_cond2 rfl (fun hc => ?_) (fun hc => ?_)
    | refine q_skip ?_
    | refine q_ret ?_
    | refine fin_tmp rfl rfl rfl ?_
  · exact absurd (of_decide_eq_true hc) (by have : Int.ofNat b = (b : Int) := rfl; omega)
  all_goals refine ⟨?_, rfl, rfl⟩
  · rename_i h1
    have h2 : n.tmod (Int.ofNat b) < 0 := of_decide_eq_true hc
    unfold withinM
    rw [if_pos h2]
    rfl
  · have h2 : ¬ n.tmod (Int.ofNat b) < 0 := of_decide_eq_false hc
    unfold withinM
    rw [if_neg h2]
    rfl
end

attribute [local irreducible] forceN forceZ forceB okIf roundsK valK rowAt
set_option maxRecDepth 100000

theorem keepText_says (len n b : Nat) (hl : len ≤ 140737488355328) (hb : b ≤ 140737488355328) : Says ρ Tryd.prog 8 [.ps len n, .int .i64 (.ofNat b)] (.ps (min len b) (n % 256 ^ min len b)) := by
  refine says_run (call := call0) follows globL_ok call0_ok (arg2 rfl rfl) ?_
  repeat' (first | ((conv => lhs; whnf); first | ((conv => lhs; arg 1; whnf); refine valK_ok ?_) | refine forceB_ok ?_ | refine forceN_add ?_ | refine forceN_sub ?_ | refine forceN_suc ?_ | refine forceN_part ?_ | refine forceN_byte ?_ | refine forceN_ok ?_ | refine forceZ_add ?_ | refine forceZ_mul (by (try simp only [maxK]); omega) ?_ | refine forceZ_sub ?_ | refine forceZ_ok ?_ | refine rowAt_ok (byteRows_get (by (try simp only [maxK]); omega)) ?_ | (apply rowAt_ok; (focus assumption)) | refine br_true (Nat.beq_refl _) ?_ | refine br_true (by assumption) ?_ | refine br_false (by assumption) ?_ | refine br_max (by (try simp only [maxK]); omega) ?_ | refine br_ble_t (by (try simp only [maxK]); omega) ?_ | refine br_ble_f (by (try simp only [maxK]); omega) ?_ | refine br_beq_f (by (try simp only [maxK]); omega) ?_ | refine br_true (by simp only [Bool.and_eq_true, Nat.ble_eq]; (try simp only []); omega) ?_ | (refine br_ble (fun h => ?_) (fun h => ?_) <;> (try simp only [] at h)) | (refine br_beq (fun h => ?_) (fun h => ?_) <;> (try simp only [] at h)) | refine br_split (fun h => ?_) (fun h => ?_) | fail) | ((conv => lhs; whnf); first | refine acc4_upd_ok (by omega) ?_ | refine acc4_get_same (by omega) ?_ | refine acc4_get_other (by omega) (by omega) (by omega) ?_ | refine acc4_get_ok (by omega) (by assumption) ?_ | refine opt3_split (fun h => ?_) (fun kind num tl h => ?_) | refine int_split (fun a h => ?_) (fun a h => ?_) | fail))
  all_goals (try (conv => lhs; whnf))
  · refine okIf_ok (frz_ps ?_ ?_)
    · show len = _; omega
    · rw [Nat.pow_zero, Nat.div_one, show min len b = len by omega]; rfl
  · refine okIf_ok (frz_ps ?_ ?_)
    · show b = _; omega
    · rw [Nat.pow_zero, Nat.div_one, show min len b = b by omega]; rfl

def withinN (z : Int) (b : Nat) : Nat := (withinM z (.ofNat b)).toNat
theorem withinN_lt (z : Int) {b : Nat} (hb : 0 < b) (hb2 : b < 1000) : withinN z b < b := by
  obtain ⟨k, h1, h2⟩ := withinM_lt z b hb hb2
  rw [withinN, h2]; exact h1
theorem withinN_eq (z : Int) {b : Nat} (hb : 0 < b) (hb2 : b < 1000) : withinM z (.ofNat b) = .ofNat (withinN z b) := by
  obtain ⟨k, h1, h2⟩ := withinM_lt z b hb hb2
  rw [withinN, h2]; rfl

noncomputable def ovWithin : OvT := ovF fun
  | [.int .i64 z, .int .i64 (.ofNat b)] => some (Nat.ble 1 b && Nat.ble b 999, .int .i64 (.ofNat (withinN z b)))
  | _ => none
theorem ovWithin_ok : OvOK ρ Tryd.prog 14 ovWithin := ov_says fun args v h => by
  split at h
  · rename_i z b
    injection h with h
    injection h with g1 g2
    subst g2
    simp only [Bool.and_eq_true, Nat.ble_eq] at g1
    rw [← withinN_eq z (by omega) (by omega)]
    exact within_says z b g1.1
  · cases h

noncomputable def ovKeep : OvT := ovF fun
  | [.ps len n, .int .i64 (.ofNat b)] => some (Nat.ble len 140737488355328 && Nat.ble b 140737488355328, .ps (min len b) (n % 256 ^ min len b))
  | _ => none
theorem ovKeep_ok : OvOK ρ Tryd.prog 8 ovKeep := ov_says fun args v h => by
  split at h
  · injection h with h
    injection h with g1 g2
    subst g2
    simp only [Bool.and_eq_true, Nat.ble_eq] at g1
    exact keepText_says _ _ _ g1.1 g1.2
  · cases h

end Go.Proofs.YtjljgldgkkfckaaDoor.M

/- The words that texts are made of. -/
namespace Go.Proofs.YtjljgldgkkfckaaDoor.M
open Go
set_option linter.unusedSimpArgs false
set_option linter.unusedVariables false
variable {ρ : Nat → Value}

attribute [local irreducible] forceN forceZ forceB okIf roundsK valK rowAt
set_option maxRecDepth 100000

/-- The words that texts are made of. -/
def wtab : List (Nat × Nat) := [(3, 6779757), (3, 6514034), (3, 6710628), (5, 491496170337), (2, 28271), (3, 7628140), (3, 7824750), (5, 500135195763), (3, 7628135), (3, 7628147), (4, 1885435763), (7, 32199706694346098), (4, 1702259047), (4, 1886351212), (5, 474449277043), (4, 1819042147), (5, 474214393697), (5, 431415719271), (4, 1701147238), (2, 29537), (2, 26217), (4, 1702063205), (4, 1701736292), (4, 1702260589), (3, 7630441), (3, 7500385), (3, 7304041), (3, 7102838), (3, 6710642), (3, 6775156), (1, 40), (1, 41), (1, 123), (1, 125), (1, 91), (1, 93), (1, 44), (1, 59), (1, 58), (1, 61), (1, 46), (1, 43), (1, 45), (1, 42), (1, 60), (1, 94), (1, 33), (1, 63), (1, 48), (1, 49), (1, 55), (2, 12849), (1, 97), (1, 98), (2, 12397), (2, 12653), (1, 120), (4, 1852399981), (4, 1819043171), (1, 110), (4, 1718379891), (3, 686627), (1, 10), (2, 14128), (1, 65), (17, 19472387550737881889148197991223912650337)]

set_option maxHeartbeats 4000000 in
theorem words_says : Says ρ Tryd.prog 21 [] (.ro 1 (wtab.map fun p => [.ps p.1 p.2])) := by
  refine says_run (call := call0) follows globL_ok call0_ok (fun _ h => by cases h) ?_
  repeat' (first | ((conv => lhs; whnf); first | ((conv => lhs; arg 1; whnf); refine valK_ok ?_) | refine forceB_ok ?_ | refine forceN_add ?_ | refine forceN_sub ?_ | refine forceN_suc ?_ | refine forceN_part ?_ | refine forceN_byte ?_ | refine forceN_ok ?_ | refine forceZ_add ?_ | refine forceZ_mul (by (try simp only [maxK]); omega) ?_ | refine forceZ_sub ?_ | refine forceZ_ok ?_ | refine rowAt_ok (byteRows_get (by (try simp only [maxK]); omega)) ?_ | (apply rowAt_ok; (focus assumption)) | refine br_true (Nat.beq_refl _) ?_ | refine br_true (by assumption) ?_ | refine br_false (by assumption) ?_ | refine br_max (by (try simp only [maxK]); omega) ?_ | refine br_ble_t (by (try simp only [maxK]); omega) ?_ | refine br_ble_f (by (try simp only [maxK]); omega) ?_ | refine br_beq_f (by (try simp only [maxK]); omega) ?_ | refine br_true (by simp only [Bool.and_eq_true, Nat.ble_eq]; (try simp only []); omega) ?_ | (refine br_ble (fun h => ?_) (fun h => ?_) <;> (try simp only [] at h)) | (refine br_beq (fun h => ?_) (fun h => ?_) <;> (try simp only [] at h)) | refine br_split (fun h => ?_) (fun h => ?_) | fail) | ((conv => lhs; whnf); first | refine acc4_upd_ok (by omega) ?_ | refine acc4_get_same (by omega) ?_ | refine acc4_get_other (by omega) (by omega) (by omega) ?_ | refine acc4_get_ok (by omega) (by assumption) ?_ | refine opt3_split (fun h => ?_) (fun kind num tl h => ?_) | refine int_split (fun a h => ?_) (fun a h => ?_) | fail))
  conv => lhs; whnf
  exact okIf_ok (frz_arr rfl rfl rfl rfl rfl)

end Go.Proofs.YtjljgldgkkfckaaDoor.M

/- columbaryplay.Text. -/
namespace Go.Proofs.YtjljgldgkkfckaaDoor.M
open Go
set_option linter.unusedSimpArgs false
set_option linter.unusedVariables false
variable {ρ : Nat → Value}

attribute [local irreducible] forceN forceZ forceB okIf roundsK valK rowAt
set_option maxRecDepth 100000

noncomputable def ovWords : OvT := ovF fun
  | [] => some (true, .ro 1 (wtab.map fun p => [.ps p.1 p.2]))
  | _ => none
theorem ovWords_ok : OvOK ρ Tryd.prog 21 ovWords := ov_says fun args v h => by
  split at h
  · injection h with h
    injection h with g1 g2
    subst g2
    exact words_says
  · cases h

def quoI (z : Int) : Int := IntKind.wrap .i64 (z.tdiv 128)
theorem quo_ofNat {a : Nat} (h : a.div 128 ≤ maxK .i64) : quoI (Int.ofNat a) = Int.ofNat (a.div 128) := wrap_small h

/-- One word, and a blank behind it or not. -/
def pickM (z : Int) (l x : Nat) : Nat × Nat :=
  match Nat.ble 1 (withinN (quoI z) 5) with
  | true => (l + (wtab.getD (withinN z 66) (0, 0)).1 + 1, x + (wtab.getD (withinN z 66) (0, 0)).2 * 256 ^ l + 32 * 256 ^ (l + (wtab.getD (withinN z 66) (0, 0)).1))
  | false => (l + (wtab.getD (withinN z 66) (0, 0)).1, x + (wtab.getD (withinN z 66) (0, 0)).2 * 256 ^ l)
theorem pick_true {z q : Int} {l x : Nat} (hq : quoI z = q) (h : 1 ≤ withinN q 5) : pickM z l x = (l + (wtab.getD (withinN z 66) (0, 0)).1 + 1, x + (wtab.getD (withinN z 66) (0, 0)).2 * 256 ^ l + 32 * 256 ^ (l + (wtab.getD (withinN z 66) (0, 0)).1)) := by
  rw [pickM, hq, Nat.ble_eq_true_of_le h]
theorem pick_false {z q : Int} {l x : Nat} (hq : quoI z = q) (h : withinN q 5 < 1) : pickM z l x = (l + (wtab.getD (withinN z 66) (0, 0)).1, x + (wtab.getD (withinN z 66) (0, 0)).2 * 256 ^ l) := by
  rw [pickM, hq, ble_false_iff.mpr h]
def textF : List Int → Nat → Nat → Nat × Nat
  | [], l, x => (l, x)
  | z :: t, l, x => textF t (pickM z l x).1 (pickM z l x).2

theorem textF_step {picks : List Int} {z : Int} {i l x b : Nat} (h : picks[i]? = some z) (hi : i < b) : textF ((picks.take b).drop i) l x = textF ((picks.take b).drop (i + 1)) (pickM z l x).1 (pickM z l x).2 := by
  have h2 : (picks.take b)[i]? = some z := by rw [List.getElem?_take_of_lt hi, h]
  obtain ⟨hlt, he⟩ := List.getElem?_eq_some_iff.mp h2
  rw [List.drop_eq_getElem_cons hlt, he]
  rfl
theorem textF_end {picks : List Int} {i l x b : Nat} (h : b ≤ i ∨ picks.length ≤ i) : textF ((picks.take b).drop i) l x = (l, x) := by
  rw [List.drop_eq_nil_of_le (by rw [List.length_take]; omega)]
  rfl

theorem wtab_at {i : Nat} (h : i < 66) : (wtab.map fun p => [V.ps p.1 p.2])[i]? = some [.ps (wtab.getD i (0, 0)).1 (wtab.getD i (0, 0)).2] := by
  have hl : i < wtab.length := h
  rw [List.getElem?_map, List.getElem?_eq_getElem hl, List.getD_eq_getElem?_getD, List.getElem?_eq_getElem hl]
  rfl
theorem wtab_len : ∀ i : Nat, i < 66 → (wtab.getD i (0, 0)).1 ≤ 17 := by decide

theorem pickM_le (z : Int) (l x : Nat) : (pickM z l x).1 ≤ l + 18 := by
  have := wtab_len _ (withinN_lt z (b := 66) (by omega) (by omega))
  unfold pickM
  split <;> simp only <;> omega
theorem textF_le : ∀ (t : List Int) (l x : Nat), (textF t l x).1 ≤ l + 18 * t.length
  | [], l, x => Nat.le_refl _
  | z :: t, l, x => by
    have h1 := textF_le t (pickM z l x).1 (pickM z l x).2
    have h2 := pickM_le z l x
    simp only [textF, List.length_cons]
    omega

set_option maxHeartbeats 4000000 in
theorem text_says (len n : Nat) (picks : List Int) (hl : len ≤ 140737488355328) (hp : picks.length ≤ 140737488355328) : Says ρ Tryd.prog 9 [.ps len n, .ro 1 (picks.map pickRow)] (.ps (textF (picks.take 60) (min len 60) (n % 256 ^ min len 60)).1 (textF (picks.take 60) (min len 60) (n % 256 ^ min len 60)).2) := by
  have hml : (picks.map pickRow).length = picks.length := by simp
  refine says_run (call := over 14 ovWithin (over 8 ovKeep (over 21 ovWords call0))) follows globL_ok (over_ok ovWithin_ok (over_ok ovKeep_ok (over_ok ovWords_ok call0_ok))) (arg2 rfl rfl) ?_
  repeat' (first | ((conv => lhs; whnf); first | ((conv => lhs; arg 1; whnf); refine valK_ok ?_) | refine forceB_ok ?_ | refine forceN_add ?_ | refine forceN_sub ?_ | refine forceN_suc ?_ | refine forceN_part ?_ | refine forceN_byte ?_ | refine forceN_ok ?_ | refine forceZ_add ?_ | refine forceZ_mul (by (try simp only [maxK]); omega) ?_ | refine forceZ_sub ?_ | refine forceZ_ok ?_ | refine rowAt_ok (byteRows_get (by (try simp only [maxK]); omega)) ?_ | (apply rowAt_ok; (focus assumption)) | refine br_true (Nat.beq_refl _) ?_ | refine br_true (by assumption) ?_ | refine br_false (by assumption) ?_ | refine br_max (by (try simp only [maxK]); omega) ?_ | refine br_ble_t (by (try simp only [maxK]); omega) ?_ | refine br_ble_f (by (try simp only [maxK]); omega) ?_ | refine br_beq_f (by (try simp only [maxK]); omega) ?_ | refine br_true (by simp only [Bool.and_eq_true, Nat.ble_eq]; (try simp only []); omega) ?_ | (refine br_ble (fun h => ?_) (fun h => ?_) <;> (try simp only [] at h)) | (refine br_beq (fun h => ?_) (fun h => ?_) <;> (try simp only [] at h)) | refine br_split (fun h => ?_) (fun h => ?_) | fail) | ((conv => lhs; whnf); first | refine acc4_upd_ok (by omega) ?_ | refine acc4_get_same (by omega) ?_ | refine acc4_get_other (by omega) (by omega) (by omega) ?_ | refine acc4_get_ok (by omega) (by assumption) ?_ | refine opt3_split (fun h => ?_) (fun kind num tl h => ?_) | refine int_split (fun a h => ?_) (fun a h => ?_) | fail))
  conv => lhs; whnf
  refine loop_ok (fun m tm hp nx => ∃ i l x, m = picks.length - i ∧ i ≤ picks.length ∧ i ≤ 60 ∧ l ≤ 60 + 18 * i ∧ textF ((picks.take 60).drop i) l x = textF (picks.take 60) (min len 60) (n % 256 ^ min len 60) ∧
    get2 tm 5 = .ps l x ∧ get2 tm 6 = .ro 1 (wtab.map fun p => [.ps p.1 p.2]) ∧ get2 tm 12 = .ro 1 (picks.map pickRow) ∧ get2 tm 13 = .int .i64 (.ofNat (picks.map pickRow).length) ∧ get2 tm 14 = .int .i64 (.ofNat i) ∧ get2 tm 255 = .un) (m := picks.length) (by omega)
    ⟨0, _, _, rfl, by omega, by omega, by omega, rfl, rfl, rfl, rfl, rfl, rfl, rfl⟩ ?_
  rintro m tm hp2 nx ⟨i, l, x, rfl, hi, hi60, hlx, hres, e5, e6, e12, e13, e14, e255⟩ k hk
  (obtain ⟨y0, y1, y2, y3, y4, y5, y6, y7, y8, y9, y10, y11, y12, y13, y14, y15⟩ := tm; obtain ⟨x0, x1, x2, x3, x4, x5, x6, x7, x8, x9, x10, x11, x12, x13, x14, x15⟩ := y0; obtain ⟨x16, x17, x18, x19, x20, x21, x22, x23, x24, x25, x26, x27, x28, x29, x30, x31⟩ := y1; obtain ⟨x32, x33, x34, x35, x36, x37, x38, x39, x40, x41, x42, x43, x44, x45, x46, x47⟩ := y2; obtain ⟨x240, x241, x242, x243, x244, x245, x246, x247, x248, x249, x250, x251, x252, x253, x254, x255⟩ := y15)
  cases e5
  cases e6
  cases e12
  cases e13
  cases e14
  cases e255
  have hz : ∀ z, picks[i]? = some z → (picks.map pickRow)[i]? = some [.int .i64 z] := fun z h => by rw [List.getElem?_map, h]; rfl
  rcases Nat.lt_or_ge i picks.length with hlt | hge
  · obtain ⟨z, hzz⟩ : ∃ z, picks[i]? = some z := ⟨_, List.getElem?_eq_getElem hlt⟩
    have hrow := hz z hzz
    have hw := withinN_lt z (b := 66) (by omega) (by omega)
    have hwr := wtab_at hw
    have hwl := wtab_len _ hw
    repeat' (first | ((conv => lhs; whnf); first | ((conv => lhs; arg 1; whnf); refine valK_ok ?_) | refine forceB_ok ?_ | refine forceN_add ?_ | refine forceN_sub ?_ | refine forceN_suc ?_ | refine forceN_part ?_ | refine forceN_byte ?_ | refine forceN_ok ?_ | refine forceZ_add ?_ | refine forceZ_mul (by (try simp only [maxK]); omega) ?_ | refine forceZ_sub ?_ | refine forceZ_ok ?_ | refine rowAt_ok (byteRows_get (by (try simp only [maxK]); omega)) ?_ | (apply rowAt_ok; (focus assumption)) | refine br_true (Nat.beq_refl _) ?_ | refine br_true (by assumption) ?_ | refine br_false (by assumption) ?_ | refine br_max (by (try simp only [maxK]); omega) ?_ | refine br_ble_t (by (try simp only [maxK]); omega) ?_ | refine br_ble_f (by (try simp only [maxK]); omega) ?_ | refine br_beq_f (by (try simp only [maxK]); omega) ?_ | refine br_true (by simp only [Bool.and_eq_true, Nat.ble_eq]; (try simp only []); omega) ?_ | (refine br_ble (fun h => ?_) (fun h => ?_) <;> (try simp only [] at h)) | (refine br_beq (fun h => ?_) (fun h => ?_) <;> (try simp only [] at h)) | refine br_split (fun h => ?_) (fun h => ?_) | fail) | ((conv => lhs; whnf); first | refine acc4_upd_ok (by omega) ?_ | refine acc4_get_same (by omega) ?_ | refine acc4_get_other (by omega) (by omega) (by omega) ?_ | refine acc4_get_ok (by omega) (by assumption) ?_ | refine opt3_split (fun h => ?_) (fun kind num tl h => ?_) | refine int_split (fun a h => ?_) (fun a h => ?_) | fail))
    all_goals (try (conv => lhs; whnf))
    all_goals first
    | (have h9 : 9223372036854775807 < l + (wtab.getD (withinN z 66) (0, 0)).1 + 1 := h
       omega)
    | (rw [textF_end (by omega)] at hres
       rw [← hres]
       exact okIf_ok (frz_ps rfl rfl))
    | (rw [textF_step hzz (by omega), pick_true (q := Int.ofNat (a.div 128)) (by rw [‹z = Int.ofNat a›]; exact quo_ofNat ‹_›) ‹Nat.succ 0 ≤ withinN (Int.ofNat (a.div 128)) 5›] at hres
       exact hk _ _ _ _ (by omega) ⟨i + 1, _, _, rfl, by omega, by omega, by omega, hres, rfl, rfl, rfl, rfl, rfl, rfl⟩)
    | (rw [textF_step hzz (by omega), pick_true (q := IntKind.i64.wrap (z.tdiv 128)) rfl ‹Nat.succ 0 ≤ withinN (IntKind.i64.wrap (z.tdiv 128)) 5›] at hres
       exact hk _ _ _ _ (by omega) ⟨i + 1, _, _, rfl, by omega, by omega, by omega, hres, rfl, rfl, rfl, rfl, rfl, rfl⟩)
    | (rw [textF_step hzz (by omega), pick_false (q := Int.ofNat (a.div 128)) (by rw [‹z = Int.ofNat a›]; exact quo_ofNat ‹_›) ‹withinN (Int.ofNat (a.div 128)) 5 < Nat.succ 0›] at hres
       exact hk _ _ _ _ (by omega) ⟨i + 1, _, _, rfl, by omega, by omega, by omega, hres, rfl, rfl, rfl, rfl, rfl, rfl⟩)
    | (rw [textF_step hzz (by omega), pick_false (q := IntKind.i64.wrap (z.tdiv 128)) rfl ‹withinN (IntKind.i64.wrap (z.tdiv 128)) 5 < Nat.succ 0›] at hres
       exact hk _ _ _ _ (by omega) ⟨i + 1, _, _, rfl, by omega, by omega, by omega, hres, rfl, rfl, rfl, rfl, rfl, rfl⟩)
  · repeat' (first | ((conv => lhs; whnf); first | ((conv => lhs; arg 1; whnf); refine valK_ok ?_) | refine forceB_ok ?_ | refine forceN_add ?_ | refine forceN_sub ?_ | refine forceN_suc ?_ | refine forceN_part ?_ | refine forceN_byte ?_ | refine forceN_ok ?_ | refine forceZ_add ?_ | refine forceZ_mul (by (try simp only [maxK]); omega) ?_ | refine forceZ_sub ?_ | refine forceZ_ok ?_ | refine rowAt_ok (byteRows_get (by (try simp only [maxK]); omega)) ?_ | (apply rowAt_ok; (focus assumption)) | refine br_true (Nat.beq_refl _) ?_ | refine br_true (by assumption) ?_ | refine br_false (by assumption) ?_ | refine br_max (by (try simp only [maxK]); omega) ?_ | refine br_ble_t (by (try simp only [maxK]); omega) ?_ | refine br_ble_f (by (try simp only [maxK]); omega) ?_ | refine br_beq_f (by (try simp only [maxK]); omega) ?_ | refine br_true (by simp only [Bool.and_eq_true, Nat.ble_eq]; (try simp only []); omega) ?_ | (refine br_ble (fun h => ?_) (fun h => ?_) <;> (try simp only [] at h)) | (refine br_beq (fun h => ?_) (fun h => ?_) <;> (try simp only [] at h)) | refine br_split (fun h => ?_) (fun h => ?_) | fail) | ((conv => lhs; whnf); first | refine acc4_upd_ok (by omega) ?_ | refine acc4_get_same (by omega) ?_ | refine acc4_get_other (by omega) (by omega) (by omega) ?_ | refine acc4_get_ok (by omega) (by assumption) ?_ | refine opt3_split (fun h => ?_) (fun kind num tl h => ?_) | refine int_split (fun a h => ?_) (fun a h => ?_) | fail))
    all_goals (try (conv => lhs; whnf))
    rw [textF_end (by omega)] at hres
    rw [← hres]
    exact okIf_ok (frz_ps rfl rfl)

/-- A text of a law. -/
def textM (len n : Nat) (picks : List Int) : Nat × Nat := textF (picks.take 60) (min len 60) (n % 256 ^ min len 60)
theorem textM_le (len n : Nat) (picks : List Int) : (textM len n picks).1 ≤ 1140 := by
  have h := textF_le (picks.take 60) (min len 60) (n % 256 ^ min len 60)
  have : (picks.take 60).length ≤ 60 := by rw [List.length_take]; omega
  unfold textM
  omega

end Go.Proofs.YtjljgldgkkfckaaDoor.M

/- The tokens as answers. -/
namespace Go.Proofs.YtjljgldgkkfckaaDoor.M
open Go
set_option linter.unusedSimpArgs false
set_option linter.unusedVariables false
variable {ρ : Nat → Value}

/-- Both lexers. -/
noncomputable def ovToks : OvT := fun args _ hp nx kr _ => match args with
  | [.ps len n] => must (Nat.ble len 16384) (lexX (toksF (len + 1) len n 1 1)
      (fun l => kr (.tup [.ro 5 (l.map Tok.row), .int .i64 (.ofNat 0), .int .i64 (.ofNat 0), .int .i64 (.ofNat 0)]) hp nx)
      (fun line col => kr (.tup [.sc (.slice none 0 0), .int .i64 (.ofNat line), .int .i64 (.ofNat col), .int .i64 (.ofNat 2)]) hp nx))
  | _ => .err 1
theorem ovToks_ok {f : FuncId} (hs : ∀ len n, len ≤ 16384 → Says ρ Tryd.prog f [.ps len n] (toksOut (toksF (len + 1) len n 1 1))) : OvOK ρ Tryd.prog f ovToks := by
  intro args forb hp nx kr kp h0
  unfold ovToks at h0
  split at h0
  · rename_i len n
    obtain ⟨c1, h1⟩ := must_inv h0
    refine (hs len n (Nat.le_of_ble_eq_true c1) (absO hp) nx (inL forb)).mono ?_
    rintro o O m ⟨e1, e2, e3⟩
    subst e1 e2 e3
    rcases lexX_inv h1 with ⟨l, e, h⟩ | ⟨a, b, e, h⟩ <;> rw [e] <;> exact ⟨hp, rfl, h⟩
  · exact Ans.no h0

end Go.Proofs.YtjljgldgkkfckaaDoor.M

/- The laws' helps: Same, wakes; the tokens as answers. -/
namespace Go.Proofs.YtjljgldgkkfckaaDoor.M
open Go
set_option linter.unusedSimpArgs false
set_option linter.unusedVariables false
variable {ρ : Nat → Value}

theorem wakes_says : Says ρ Tryd.prog 13 [] (.bool true) := says_true follows globL_ok 9 (by decide +kernel)

/-- Tokens, compared. -/
def tokFs : List (Nat × Nat) := [(0, 0), (1, 0), (2, 0), (3, 0), (4, 2)]
theorem eqTy_tok : eqTy Tryd.prog 34 = some tokFs := by decide +kernel
def isStruct : Option Sh → Bool
  | some (.struct _) => true
  | _ => false
theorem isStruct_ok {o : Option Sh} (h : isStruct o = true) : ∃ F, o = some (.struct F) := by
  unfold isStruct at h
  split at h
  · exact ⟨_, rfl⟩
  · cases h
theorem qTok {x y : Operand} : qBin Tryd.prog .neq 34 x y = q2 x y fun v u _ hs k => aggsK tokFs v u fun p => k (.bool (!p)) hs := by
  have h : ∃ F, shOf Tryd.prog 34 = some (.struct F) := by
    exact isStruct_ok (by decide +kernel)
  obtain ⟨F, h⟩ := h
  unfold qBin
  simp only [h]
  unfold qAgg
  rw [eqTy_tok]
theorem tok_same {l : List V} {f : Bool → Ans} (hl : eqL tokFs l l = some true) (h : f true = .ok) : aggsK tokFs (.agg l) (.agg l) f = .ok := by
  show optK (eqL tokFs l l) (fun b => forceB b f) = .ok
  rw [hl]
  exact h
theorem tok_self (t : Tok) : eqL tokFs t.row t.row = some true := by
  simp [tokFs, eqL, Tok.row, eqC]

attribute [local irreducible] forceN forceZ forceB okIf roundsK valK rowAt
attribute [local irreducible] askP toksF aggsK
set_option maxRecDepth 100000

set_option maxHeartbeats 4000000 in
theorem same_says (l : List Tok) (hl : l.length ≤ 100000) : Says ρ Tryd.prog 12 [.ro 5 (l.map Tok.row), .ro 5 (l.map Tok.row)] (.bool true) := by
  have hml : (l.map Tok.row).length = l.length := by simp
  refine says_run (call := call0) follows globL_ok call0_ok (arg2 rfl rfl) ?_
  repeat' (first | ((conv => lhs; whnf); first | ((conv => lhs; arg 1; whnf); refine valK_ok ?_) | refine forceB_ok ?_ | refine forceN_add ?_ | refine forceN_sub ?_ | refine forceN_suc ?_ | refine forceN_part ?_ | refine forceN_byte ?_ | refine forceN_ok ?_ | refine forceZ_add ?_ | refine forceZ_mul (by (try simp only [maxK]); omega) ?_ | refine forceZ_sub ?_ | refine forceZ_ok ?_ | refine rowAt_ok (byteRows_get (by (try simp only [maxK]); omega)) ?_ | (apply rowAt_ok; (focus assumption)) | refine br_true (Nat.beq_refl _) ?_ | refine br_true (by assumption) ?_ | refine br_false (by assumption) ?_ | refine br_max (by (try simp only [maxK]); omega) ?_ | refine br_ble_t (by (try simp only [maxK]); omega) ?_ | refine br_ble_f (by (try simp only [maxK]); omega) ?_ | refine br_beq_f (by (try simp only [maxK]); omega) ?_ | refine br_true (by simp only [Bool.and_eq_true, Nat.ble_eq]; (try simp only []); omega) ?_ | (refine br_ble (fun h => ?_) (fun h => ?_) <;> (try simp only [] at h)) | (refine br_beq (fun h => ?_) (fun h => ?_) <;> (try simp only [] at h)) | refine br_split (fun h => ?_) (fun h => ?_) | fail) | ((conv => lhs; whnf); first | refine acc4_upd_ok (by omega) ?_ | refine acc4_get_same (by omega) ?_ | refine acc4_get_other (by omega) (by omega) (by omega) ?_ | refine acc4_get_ok (by omega) (by assumption) ?_ | refine opt3_split (fun h => ?_) (fun kind num tl h => ?_) | refine int_split (fun a h => ?_) (fun a h => ?_) | fail))
  conv => lhs; whnf
  refine loop_ok (fun m tm hp nx => ∃ i, m = l.length - i ∧ i ≤ l.length ∧ get2 tm 0 = .ro 5 (l.map Tok.row) ∧ get2 tm 1 = .ro 5 (l.map Tok.row) ∧ get2 tm 5 = .int .i64 (.ofNat i) ∧ get2 tm 255 = .un) (m := l.length) (by omega)
    ⟨0, rfl, by omega, rfl, rfl, rfl, rfl⟩ ?_
  rintro m tm hp nx ⟨i, rfl, hi, e0, e1, e5, e255⟩ k hk
  (obtain ⟨y0, y1, y2, y3, y4, y5, y6, y7, y8, y9, y10, y11, y12, y13, y14, y15⟩ := tm; obtain ⟨x0, x1, x2, x3, x4, x5, x6, x7, x8, x9, x10, x11, x12, x13, x14, x15⟩ := y0; obtain ⟨x16, x17, x18, x19, x20, x21, x22, x23, x24, x25, x26, x27, x28, x29, x30, x31⟩ := y1; obtain ⟨x32, x33, x34, x35, x36, x37, x38, x39, x40, x41, x42, x43, x44, x45, x46, x47⟩ := y2; obtain ⟨x240, x241, x242, x243, x244, x245, x246, x247, x248, x249, x250, x251, x252, x253, x254, x255⟩ := y15)
  cases e0
  cases e1
  cases e5
  cases e255
  rcases Nat.lt_or_ge i l.length with hlt | hge
  · obtain ⟨⟨a1, a2, a3, a4, a5, a6⟩, ht⟩ : ∃ t, l[i]? = some t := ⟨_, List.getElem?_eq_getElem hlt⟩
    have hrow : (l.map Tok.row)[i]? = some [.int .i64 (.ofNat a1), .int .i64 (.ofNat a2), .int .i64 (.ofNat a3), .int .i64 (.ofNat a4), .ps a5 a6] := by rw [List.getElem?_map, ht]; rfl
    repeat' (first | ((conv => lhs; whnf); first | ((conv => lhs; arg 1; whnf); refine valK_ok ?_) | refine forceB_ok ?_ | refine forceN_add ?_ | refine forceN_sub ?_ | refine forceN_suc ?_ | refine forceN_part ?_ | refine forceN_byte ?_ | refine forceN_ok ?_ | refine forceZ_add ?_ | refine forceZ_mul (by (try simp only [maxK]); omega) ?_ | refine forceZ_sub ?_ | refine forceZ_ok ?_ | refine rowAt_ok (byteRows_get (by (try simp only [maxK]); omega)) ?_ | (apply rowAt_ok; (focus assumption)) | refine br_true (Nat.beq_refl _) ?_ | refine br_true (by assumption) ?_ | refine br_false (by assumption) ?_ | refine br_max (by (try simp only [maxK]); omega) ?_ | refine br_ble_t (by (try simp only [maxK]); omega) ?_ | refine br_ble_f (by (try simp only [maxK]); omega) ?_ | refine br_beq_f (by (try simp only [maxK]); omega) ?_ | refine br_true (by simp only [Bool.and_eq_true, Nat.ble_eq]; (try simp only []); omega) ?_ | (refine br_ble (fun h => ?_) (fun h => ?_) <;> (try simp only [] at h)) | (refine br_beq (fun h => ?_) (fun h => ?_) <;> (try simp only [] at h)) | refine br_split (fun h => ?_) (fun h => ?_) | fail) | ((conv => lhs; whnf); first | refine acc4_upd_ok (by omega) ?_ | refine acc4_get_same (by omega) ?_ | refine acc4_get_other (by omega) (by omega) (by omega) ?_ | refine acc4_get_ok (by omega) (by assumption) ?_ | refine opt3_split (fun h => ?_) (fun kind num tl h => ?_) | refine int_split (fun a h => ?_) (fun a h => ?_) | fail))
    conv => lhs; whnf
    rw [qTok]
    repeat' (first | ((conv => lhs; whnf); first | ((conv => lhs; arg 1; whnf); refine valK_ok ?_) | refine forceB_ok ?_ | refine forceN_add ?_ | refine forceN_sub ?_ | refine forceN_suc ?_ | refine forceN_part ?_ | refine forceN_byte ?_ | refine forceN_ok ?_ | refine forceZ_add ?_ | refine forceZ_mul (by (try simp only [maxK]); omega) ?_ | refine forceZ_sub ?_ | refine forceZ_ok ?_ | refine rowAt_ok (byteRows_get (by (try simp only [maxK]); omega)) ?_ | (apply rowAt_ok; (focus assumption)) | refine br_true (Nat.beq_refl _) ?_ | refine br_true (by assumption) ?_ | refine br_false (by assumption) ?_ | refine br_max (by (try simp only [maxK]); omega) ?_ | refine br_ble_t (by (try simp only [maxK]); omega) ?_ | refine br_ble_f (by (try simp only [maxK]); omega) ?_ | refine br_beq_f (by (try simp only [maxK]); omega) ?_ | refine br_true (by simp only [Bool.and_eq_true, Nat.ble_eq]; (try simp only []); omega) ?_ | (refine br_ble (fun h => ?_) (fun h => ?_) <;> (try simp only [] at h)) | (refine br_beq (fun h => ?_) (fun h => ?_) <;> (try simp only [] at h)) | refine br_split (fun h => ?_) (fun h => ?_) | fail) | ((conv => lhs; whnf); first | refine acc4_upd_ok (by omega) ?_ | refine acc4_get_same (by omega) ?_ | refine acc4_get_other (by omega) (by omega) (by omega) ?_ | refine acc4_get_ok (by omega) (by assumption) ?_ | refine opt3_split (fun h => ?_) (fun kind num tl h => ?_) | refine int_split (fun a h => ?_) (fun a h => ?_) | fail))
    conv => lhs; whnf
    refine tok_same (tok_self ⟨a1, a2, a3, a4, a5, a6⟩) ?_
    repeat' (first | ((conv => lhs; whnf); first | ((conv => lhs; arg 1; whnf); refine valK_ok ?_) | refine forceB_ok ?_ | refine forceN_add ?_ | refine forceN_sub ?_ | refine forceN_suc ?_ | refine forceN_part ?_ | refine forceN_byte ?_ | refine forceN_ok ?_ | refine forceZ_add ?_ | refine forceZ_mul (by (try simp only [maxK]); omega) ?_ | refine forceZ_sub ?_ | refine forceZ_ok ?_ | refine rowAt_ok (byteRows_get (by (try simp only [maxK]); omega)) ?_ | (apply rowAt_ok; (focus assumption)) | refine br_true (Nat.beq_refl _) ?_ | refine br_true (by assumption) ?_ | refine br_false (by assumption) ?_ | refine br_max (by (try simp only [maxK]); omega) ?_ | refine br_ble_t (by (try simp only [maxK]); omega) ?_ | refine br_ble_f (by (try simp only [maxK]); omega) ?_ | refine br_beq_f (by (try simp only [maxK]); omega) ?_ | refine br_true (by simp only [Bool.and_eq_true, Nat.ble_eq]; (try simp only []); omega) ?_ | (refine br_ble (fun h => ?_) (fun h => ?_) <;> (try simp only [] at h)) | (refine br_beq (fun h => ?_) (fun h => ?_) <;> (try simp only [] at h)) | refine br_split (fun h => ?_) (fun h => ?_) | fail) | ((conv => lhs; whnf); first | refine acc4_upd_ok (by omega) ?_ | refine acc4_get_same (by omega) ?_ | refine acc4_get_other (by omega) (by omega) (by omega) ?_ | refine acc4_get_ok (by omega) (by assumption) ?_ | refine opt3_split (fun h => ?_) (fun kind num tl h => ?_) | refine int_split (fun a h => ?_) (fun a h => ?_) | fail))
    all_goals (try (conv => lhs; whnf))
    exact hk _ _ _ _ (by omega) ⟨i + 1, rfl, by omega, rfl, rfl, rfl, rfl⟩
  · repeat' (first | ((conv => lhs; whnf); first | ((conv => lhs; arg 1; whnf); refine valK_ok ?_) | refine forceB_ok ?_ | refine forceN_add ?_ | refine forceN_sub ?_ | refine forceN_suc ?_ | refine forceN_part ?_ | refine forceN_byte ?_ | refine forceN_ok ?_ | refine forceZ_add ?_ | refine forceZ_mul (by (try simp only [maxK]); omega) ?_ | refine forceZ_sub ?_ | refine forceZ_ok ?_ | refine rowAt_ok (byteRows_get (by (try simp only [maxK]); omega)) ?_ | (apply rowAt_ok; (focus assumption)) | refine br_true (Nat.beq_refl _) ?_ | refine br_true (by assumption) ?_ | refine br_false (by assumption) ?_ | refine br_max (by (try simp only [maxK]); omega) ?_ | refine br_ble_t (by (try simp only [maxK]); omega) ?_ | refine br_ble_f (by (try simp only [maxK]); omega) ?_ | refine br_beq_f (by (try simp only [maxK]); omega) ?_ | refine br_true (by simp only [Bool.and_eq_true, Nat.ble_eq]; (try simp only []); omega) ?_ | (refine br_ble (fun h => ?_) (fun h => ?_) <;> (try simp only [] at h)) | (refine br_beq (fun h => ?_) (fun h => ?_) <;> (try simp only [] at h)) | refine br_split (fun h => ?_) (fun h => ?_) | fail) | ((conv => lhs; whnf); first | refine acc4_upd_ok (by omega) ?_ | refine acc4_get_same (by omega) ?_ | refine acc4_get_other (by omega) (by omega) (by omega) ?_ | refine acc4_get_ok (by omega) (by assumption) ?_ | refine opt3_split (fun h => ?_) (fun kind num tl h => ?_) | refine int_split (fun a h => ?_) (fun a h => ?_) | fail))
    all_goals (try (conv => lhs; whnf))
    exact okIf_ok (frz_bool rfl)

set_option maxHeartbeats 4000000 in
theorem same_nil : Says ρ Tryd.prog 12 [.sc (.slice none 0 0), .sc (.slice none 0 0)] (.bool true) := by
  refine says_run (call := call0) follows globL_ok call0_ok (arg2 rfl rfl) ?_
  repeat' (first | ((conv => lhs; whnf); first | ((conv => lhs; arg 1; whnf); refine valK_ok ?_) | refine forceB_ok ?_ | refine forceN_add ?_ | refine forceN_sub ?_ | refine forceN_suc ?_ | refine forceN_part ?_ | refine forceN_byte ?_ | refine forceN_ok ?_ | refine forceZ_add ?_ | refine forceZ_mul (by (try simp only [maxK]); omega) ?_ | refine forceZ_sub ?_ | refine forceZ_ok ?_ | refine rowAt_ok (byteRows_get (by (try simp only [maxK]); omega)) ?_ | (apply rowAt_ok; (focus assumption)) | refine br_true (Nat.beq_refl _) ?_ | refine br_true (by assumption) ?_ | refine br_false (by assumption) ?_ | refine br_max (by (try simp only [maxK]); omega) ?_ | refine br_ble_t (by (try simp only [maxK]); omega) ?_ | refine br_ble_f (by (try simp only [maxK]); omega) ?_ | refine br_beq_f (by (try simp only [maxK]); omega) ?_ | refine br_true (by simp only [Bool.and_eq_true, Nat.ble_eq]; (try simp only []); omega) ?_ | (refine br_ble (fun h => ?_) (fun h => ?_) <;> (try simp only [] at h)) | (refine br_beq (fun h => ?_) (fun h => ?_) <;> (try simp only [] at h)) | refine br_split (fun h => ?_) (fun h => ?_) | fail) | ((conv => lhs; whnf); first | refine acc4_upd_ok (by omega) ?_ | refine acc4_get_same (by omega) ?_ | refine acc4_get_other (by omega) (by omega) (by omega) ?_ | refine acc4_get_ok (by omega) (by assumption) ?_ | refine opt3_split (fun h => ?_) (fun kind num tl h => ?_) | refine int_split (fun a h => ?_) (fun a h => ?_) | fail))
  refine unroll (by unfold rounds0; omega) ?_
  repeat' (first | ((conv => lhs; whnf); first | ((conv => lhs; arg 1; whnf); refine valK_ok ?_) | refine forceB_ok ?_ | refine forceN_add ?_ | refine forceN_sub ?_ | refine forceN_suc ?_ | refine forceN_part ?_ | refine forceN_byte ?_ | refine forceN_ok ?_ | refine forceZ_add ?_ | refine forceZ_mul (by (try simp only [maxK]); omega) ?_ | refine forceZ_sub ?_ | refine forceZ_ok ?_ | refine rowAt_ok (byteRows_get (by (try simp only [maxK]); omega)) ?_ | (apply rowAt_ok; (focus assumption)) | refine br_true (Nat.beq_refl _) ?_ | refine br_true (by assumption) ?_ | refine br_false (by assumption) ?_ | refine br_max (by (try simp only [maxK]); omega) ?_ | refine br_ble_t (by (try simp only [maxK]); omega) ?_ | refine br_ble_f (by (try simp only [maxK]); omega) ?_ | refine br_beq_f (by (try simp only [maxK]); omega) ?_ | refine br_true (by simp only [Bool.and_eq_true, Nat.ble_eq]; (try simp only []); omega) ?_ | (refine br_ble (fun h => ?_) (fun h => ?_) <;> (try simp only [] at h)) | (refine br_beq (fun h => ?_) (fun h => ?_) <;> (try simp only [] at h)) | refine br_split (fun h => ?_) (fun h => ?_) | fail) | ((conv => lhs; whnf); first | refine acc4_upd_ok (by omega) ?_ | refine acc4_get_same (by omega) ?_ | refine acc4_get_other (by omega) (by omega) (by omega) ?_ | refine acc4_get_ok (by omega) (by assumption) ?_ | refine opt3_split (fun h => ?_) (fun kind num tl h => ?_) | refine int_split (fun a h => ?_) (fun a h => ?_) | fail))
  all_goals (try (conv => lhs; whnf))
  exact okIf_ok (frz_bool rfl)

/-- The same tokens twice, or none. -/
def SameArgs (args : List V) : Prop := (∃ l : List Tok, l.length ≤ 100000 ∧ args = [.ro 5 (l.map Tok.row), .ro 5 (l.map Tok.row)]) ∨ args = [.sc (.slice none 0 0), .sc (.slice none 0 0)]
noncomputable def ovSame : OvT := fun args _ hp nx kr _ => askP (SameArgs args) (kr (.bool true) hp nx)
theorem ovSame_ok : OvOK ρ Tryd.prog 12 ovSame := by
  intro args forb hp nx kr kp h0
  obtain ⟨h1, h2⟩ := askP_inv h0
  have hs : Says ρ Tryd.prog 12 args (.bool true) := by
    rcases h1 with ⟨l, hl, rfl⟩ | rfl
    · exact same_says l hl
    · exact same_nil
  refine (hs (absO hp) nx (inL forb)).mono ?_
  rintro o O m ⟨e1, e2, e3⟩
  subst e1 e2 e3
  exact ⟨hp, rfl, h2⟩

noncomputable def ovWakes : OvT := ovF fun | [] => some (true, .bool true) | _ => none
theorem ovWakes_ok : OvOK ρ Tryd.prog 13 ovWakes := ov_says fun args v h => by
  split at h
  · injection h with h
    injection h with g1 g2
    subst g2
    exact wakes_says
  · cases h

theorem toksF_le : ∀ (f l n line col : Nat) (r : List Tok), toksF f l n line col = .ok r → r.length ≤ f
  | 0, l, n, line, col, r, h => by simp [toksF] at h
  | f + 1, l, n, line, col, r, h => by
    unfold toksF at h
    simp only at h
    split at h
    · cases h
    · split at h
      · cases h; simp
      · rename_i kind num tl _ _ _
        generalize hr : toksF f _ _ _ _ = x at h
        cases x with
        | ok l2 =>
          have := toksF_le _ _ _ _ _ _ hr
          simp only [LexR.pre] at h
          cases h
          simp; omega
        | bad a b => cases h

end Go.Proofs.YtjljgldgkkfckaaDoor.M

/- LexTells: both lexers say the same. -/
namespace Go.Proofs.YtjljgldgkkfckaaDoor.M
open Go
set_option linter.unusedSimpArgs false
set_option linter.unusedVariables false
variable {ρ : Nat → Value}

noncomputable def ovText : OvT := fun args _ hp nx kr _ => match args with
  | [.ps len n, .ro 1 rows] => askP (len ≤ 140737488355328 ∧ rows.length ≤ 140737488355328 ∧ rows = (rows.map pickOf).map pickRow) (kr (.ps (textM len n (rows.map pickOf)).1 (textM len n (rows.map pickOf)).2) hp nx)
  | _ => .err 1
theorem ovText_ok : OvOK ρ Tryd.prog 9 ovText := by
  intro args forb hp nx kr kp h0
  unfold ovText at h0
  split at h0
  · rename_i len n rows
    obtain ⟨⟨h1, h2, h3⟩, h4⟩ := askP_inv h0
    have hs := text_says (ρ := ρ) len n (rows.map pickOf) h1 (by simpa using h2)
    rw [← h3] at hs
    refine (hs (absO hp) nx (inL forb)).mono ?_
    rintro o O m ⟨e1, e2, e3⟩
    subst e1 e2 e3
    exact ⟨hp, rfl, h4⟩
  · exact Ans.no h0

attribute [local irreducible] forceN forceZ forceB okIf roundsK valK rowAt
attribute [local irreducible] askP toksF aggsK
set_option maxRecDepth 100000

set_option maxHeartbeats 4000000 in
theorem lexTells_says (len n : Nat) (picks : List Int) (hl : len ≤ 140737488355328) (hp : picks.length ≤ 140737488355328) : Says ρ Tryd.prog 3 [.ps len n, .ro 1 (picks.map pickRow)] (.bool true) := by
  have hml : (picks.map pickRow).length ≤ 140737488355328 := by simpa using hp
  have hx := textM_le len n ((picks.map pickRow).map pickOf)
  refine says_run (call := over 8 ovKeep (over 9 ovText (over 10 ovToks (over 11 ovToks (over 12 ovSame (over 13 ovWakes call0)))))) follows globL_ok (over_ok ovKeep_ok (over_ok ovText_ok (over_ok (ovToks_ok tokens_says) (over_ok (ovToks_ok rtokens_says) (over_ok ovSame_ok (over_ok ovWakes_ok call0_ok)))))) (arg2 rfl rfl) ?_
  repeat' (first | ((conv => lhs; whnf); first | ((conv => lhs; arg 1; whnf); refine valK_ok ?_) | refine forceB_ok ?_ | refine forceN_add ?_ | refine forceN_sub ?_ | refine forceN_suc ?_ | refine forceN_part ?_ | refine forceN_byte ?_ | refine forceN_ok ?_ | refine forceZ_add ?_ | refine forceZ_mul (by (try simp only [maxK]); omega) ?_ | refine forceZ_sub ?_ | refine forceZ_ok ?_ | refine rowAt_ok (byteRows_get (by (try simp only [maxK]); omega)) ?_ | (apply rowAt_ok; (focus assumption)) | refine br_true (Nat.beq_refl _) ?_ | refine br_true (by assumption) ?_ | refine br_false (by assumption) ?_ | refine br_max (by (try simp only [maxK]); omega) ?_ | refine br_ble_t (by (try simp only [maxK]); omega) ?_ | refine br_ble_f (by (try simp only [maxK]); omega) ?_ | refine br_beq_f (by (try simp only [maxK]); omega) ?_ | refine br_true (by simp only [Bool.and_eq_true, Nat.ble_eq]; (try simp only []); omega) ?_ | (refine br_ble (fun h => ?_) (fun h => ?_) <;> (try simp only [] at h)) | (refine br_beq (fun h => ?_) (fun h => ?_) <;> (try simp only [] at h)) | refine br_split (fun h => ?_) (fun h => ?_) | fail) | ((conv => lhs; whnf); first | refine acc4_upd_ok (by omega) ?_ | refine acc4_get_same (by omega) ?_ | refine acc4_get_other (by omega) (by omega) (by omega) ?_ | refine acc4_get_ok (by omega) (by assumption) ?_ | refine opt3_split (fun h => ?_) (fun kind num tl h => ?_) | refine int_split (fun a h => ?_) (fun a h => ?_) | fail))
  conv => lhs; whnf
  refine askP_ok ⟨hl, hml, picks_of picks⟩ ?_
  repeat' (first | ((conv => lhs; whnf); first | ((conv => lhs; arg 1; whnf); refine valK_ok ?_) | refine forceB_ok ?_ | refine forceN_add ?_ | refine forceN_sub ?_ | refine forceN_suc ?_ | refine forceN_part ?_ | refine forceN_byte ?_ | refine forceN_ok ?_ | refine forceZ_add ?_ | refine forceZ_mul (by (try simp only [maxK]); omega) ?_ | refine forceZ_sub ?_ | refine forceZ_ok ?_ | refine rowAt_ok (byteRows_get (by (try simp only [maxK]); omega)) ?_ | (apply rowAt_ok; (focus assumption)) | refine br_true (Nat.beq_refl _) ?_ | refine br_true (by assumption) ?_ | refine br_false (by assumption) ?_ | refine br_max (by (try simp only [maxK]); omega) ?_ | refine br_ble_t (by (try simp only [maxK]); omega) ?_ | refine br_ble_f (by (try simp only [maxK]); omega) ?_ | refine br_beq_f (by (try simp only [maxK]); omega) ?_ | refine br_true (by simp only [Bool.and_eq_true, Nat.ble_eq]; (try simp only []); omega) ?_ | (refine br_ble (fun h => ?_) (fun h => ?_) <;> (try simp only [] at h)) | (refine br_beq (fun h => ?_) (fun h => ?_) <;> (try simp only [] at h)) | refine br_split (fun h => ?_) (fun h => ?_) | fail) | ((conv => lhs; whnf); first | refine acc4_upd_ok (by omega) ?_ | refine acc4_get_same (by omega) ?_ | refine acc4_get_other (by omega) (by omega) (by omega) ?_ | refine acc4_get_ok (by omega) (by assumption) ?_ | refine opt3_split (fun h => ?_) (fun kind num tl h => ?_) | refine int_split (fun a h => ?_) (fun a h => ?_) | fail))
  refine unroll (by unfold rounds0; omega) ?_
  repeat' (first | (first | ((conv => lhs; whnf); first | ((conv => lhs; arg 1; whnf); refine valK_ok ?_) | refine forceB_ok ?_ | refine forceN_add ?_ | refine forceN_sub ?_ | refine forceN_suc ?_ | refine forceN_part ?_ | refine forceN_byte ?_ | refine forceN_ok ?_ | refine forceZ_add ?_ | refine forceZ_mul (by (try simp only [maxK]); omega) ?_ | refine forceZ_sub ?_ | refine forceZ_ok ?_ | refine rowAt_ok (byteRows_get (by (try simp only [maxK]); omega)) ?_ | (apply rowAt_ok; (focus assumption)) | refine br_true (Nat.beq_refl _) ?_ | refine br_true (by assumption) ?_ | refine br_false (by assumption) ?_ | refine br_max (by (try simp only [maxK]); omega) ?_ | refine br_ble_t (by (try simp only [maxK]); omega) ?_ | refine br_ble_f (by (try simp only [maxK]); omega) ?_ | refine br_beq_f (by (try simp only [maxK]); omega) ?_ | refine br_true (by simp only [Bool.and_eq_true, Nat.ble_eq]; (try simp only []); omega) ?_ | (refine br_ble (fun h => ?_) (fun h => ?_) <;> (try simp only [] at h)) | (refine br_beq (fun h => ?_) (fun h => ?_) <;> (try simp only [] at h)) | refine br_split (fun h => ?_) (fun h => ?_) | fail) | ((conv => lhs; whnf); first | refine acc4_upd_ok (by omega) ?_ | refine acc4_get_same (by omega) ?_ | refine acc4_get_other (by omega) (by omega) (by omega) ?_ | refine acc4_get_ok (by omega) (by assumption) ?_ | refine opt3_split (fun h => ?_) (fun kind num tl h => ?_) | refine int_split (fun a h => ?_) (fun a h => ?_) | fail)) | ((conv => lhs; whnf); first | (apply lex_ok; (focus assumption)) | (apply lex_bad; (focus assumption)) | refine lex_split (fun l h => ?_) (fun a b h => ?_) | refine askP_ok (.inl ⟨_, Nat.le_trans (toksF_le _ _ _ _ _ _ ‹toksF _ _ _ _ _ = LexR.ok _›) (by first | omega | exact Nat.le_trans (Nat.succ_le_succ (Nat.min_le_right _ _)) (by decide)), rfl⟩) ?_ | refine askP_ok (.inr rfl) ?_ | fail))
  all_goals (conv => lhs; whnf)
  all_goals refine unroll (by unfold rounds0; omega) ?_
  all_goals repeat' (first | (first | ((conv => lhs; whnf); first | ((conv => lhs; arg 1; whnf); refine valK_ok ?_) | refine forceB_ok ?_ | refine forceN_add ?_ | refine forceN_sub ?_ | refine forceN_suc ?_ | refine forceN_part ?_ | refine forceN_byte ?_ | refine forceN_ok ?_ | refine forceZ_add ?_ | refine forceZ_mul (by (try simp only [maxK]); omega) ?_ | refine forceZ_sub ?_ | refine forceZ_ok ?_ | refine rowAt_ok (byteRows_get (by (try simp only [maxK]); omega)) ?_ | (apply rowAt_ok; (focus assumption)) | refine br_true (Nat.beq_refl _) ?_ | refine br_true (by assumption) ?_ | refine br_false (by assumption) ?_ | refine br_max (by (try simp only [maxK]); omega) ?_ | refine br_ble_t (by (try simp only [maxK]); omega) ?_ | refine br_ble_f (by (try simp only [maxK]); omega) ?_ | refine br_beq_f (by (try simp only [maxK]); omega) ?_ | refine br_true (by simp only [Bool.and_eq_true, Nat.ble_eq]; (try simp only []); omega) ?_ | (refine br_ble (fun h => ?_) (fun h => ?_) <;> (try simp only [] at h)) | (refine br_beq (fun h => ?_) (fun h => ?_) <;> (try simp only [] at h)) | refine br_split (fun h => ?_) (fun h => ?_) | fail) | ((conv => lhs; whnf); first | refine acc4_upd_ok (by omega) ?_ | refine acc4_get_same (by omega) ?_ | refine acc4_get_other (by omega) (by omega) (by omega) ?_ | refine acc4_get_ok (by omega) (by assumption) ?_ | refine opt3_split (fun h => ?_) (fun kind num tl h => ?_) | refine int_split (fun a h => ?_) (fun a h => ?_) | fail)) | ((conv => lhs; whnf); first | (apply lex_ok; (focus assumption)) | (apply lex_bad; (focus assumption)) | refine lex_split (fun l h => ?_) (fun a b h => ?_) | refine askP_ok (.inl ⟨_, Nat.le_trans (toksF_le _ _ _ _ _ _ ‹toksF _ _ _ _ _ = LexR.ok _›) (by first | omega | exact Nat.le_trans (Nat.succ_le_succ (Nat.min_le_right _ _)) (by decide)), rfl⟩) ?_ | refine askP_ok (.inr rfl) ?_ | fail))
  all_goals (conv => lhs; whnf)
  all_goals refine unroll (by unfold rounds0; omega) ?_
  all_goals repeat' (first | (first | ((conv => lhs; whnf); first | ((conv => lhs; arg 1; whnf); refine valK_ok ?_) | refine forceB_ok ?_ | refine forceN_add ?_ | refine forceN_sub ?_ | refine forceN_suc ?_ | refine forceN_part ?_ | refine forceN_byte ?_ | refine forceN_ok ?_ | refine forceZ_add ?_ | refine forceZ_mul (by (try simp only [maxK]); omega) ?_ | refine forceZ_sub ?_ | refine forceZ_ok ?_ | refine rowAt_ok (byteRows_get (by (try simp only [maxK]); omega)) ?_ | (apply rowAt_ok; (focus assumption)) | refine br_true (Nat.beq_refl _) ?_ | refine br_true (by assumption) ?_ | refine br_false (by assumption) ?_ | refine br_max (by (try simp only [maxK]); omega) ?_ | refine br_ble_t (by (try simp only [maxK]); omega) ?_ | refine br_ble_f (by (try simp only [maxK]); omega) ?_ | refine br_beq_f (by (try simp only [maxK]); omega) ?_ | refine br_true (by simp only [Bool.and_eq_true, Nat.ble_eq]; (try simp only []); omega) ?_ | (refine br_ble (fun h => ?_) (fun h => ?_) <;> (try simp only [] at h)) | (refine br_beq (fun h => ?_) (fun h => ?_) <;> (try simp only [] at h)) | refine br_split (fun h => ?_) (fun h => ?_) | fail) | ((conv => lhs; whnf); first | refine acc4_upd_ok (by omega) ?_ | refine acc4_get_same (by omega) ?_ | refine acc4_get_other (by omega) (by omega) (by omega) ?_ | refine acc4_get_ok (by omega) (by assumption) ?_ | refine opt3_split (fun h => ?_) (fun kind num tl h => ?_) | refine int_split (fun a h => ?_) (fun a h => ?_) | fail)) | ((conv => lhs; whnf); first | (apply lex_ok; (focus assumption)) | (apply lex_bad; (focus assumption)) | refine lex_split (fun l h => ?_) (fun a b h => ?_) | refine askP_ok (.inl ⟨_, Nat.le_trans (toksF_le _ _ _ _ _ _ ‹toksF _ _ _ _ _ = LexR.ok _›) (by first | omega | exact Nat.le_trans (Nat.succ_le_succ (Nat.min_le_right _ _)) (by decide)), rfl⟩) ?_ | refine askP_ok (.inr rfl) ?_ | fail))
  all_goals (try (conv => lhs; whnf))
  all_goals try exact okIf_ok (frz_bool rfl)

end Go.Proofs.YtjljgldgkkfckaaDoor.M

/- Tokens of two texts with a line's end between. -/
namespace Go.Proofs.YtjljgldgkkfckaaDoor.M
open Go
set_option linter.unusedSimpArgs false
set_option linter.unusedVariables false

/-! ### Where the first token stands -/

theorem blanksF_ge : ∀ {f l n line col : Nat}, line < (blanksF f l n line col).2.2.1 ∨ (blanksF f l n line col).2.2.1 = line ∧ col ≤ (blanksF f l n line col).2.2.2
  | 0, l, n, line, col => .inr ⟨rfl, Nat.le_refl _⟩
  | f + 1, l, n, line, col => by
    by_cases h0 : l = 0
    · rw [blanks_end (.inl h0)]; exact .inr ⟨rfl, Nat.le_refl _⟩
    by_cases h1 : n % 256 = 32 ∨ n % 256 = 9
    · rw [blanks_blank (by omega) h1]
      have := blanksF_ge (f := f) (l := l - 1) (n := n / 256) (line := line) (col := col + 1)
      omega
    by_cases h2 : n % 256 = 10
    · rw [blanks_line (by omega) h2]
      have := blanksF_ge (f := f) (l := l - 1) (n := n / 256) (line := line + 1) (col := 1)
      omega
    by_cases h3 : n % 256 = 35
    · rw [blanks_word (by omega) h3]
      have := blanksF_ge (f := f) (l := l - runP lineB l n) (n := n / 256 ^ runP lineB l n) (line := line) (col := col + runP lineB l n)
      omega
    · rw [blanks_end (.inr ⟨by omega, by omega, h2, h3⟩)]; exact .inr ⟨rfl, Nat.le_refl _⟩

theorem toks_head {F l x line col : Nat} {r : List Tok} (h : toksF F l x line col = .ok r) : ∃ t r', r = t :: r' ∧ (line < t.line ∨ t.line = line ∧ col ≤ t.col) := by
  cases F with
  | zero => simp [toksF] at h
  | succ F =>
    have hge := blanksF_ge (f := l) (l := l) (n := x) (line := line) (col := col)
    cases ht : tokM (blanksF l l x line col).1 (blanksF l l x line col).2.1 with
    | none => rw [toks_bad ht] at h; cases h
    | some t =>
      obtain ⟨kind, num, tl⟩ := t
      by_cases hk : kind = 4
      · subst hk
        rw [toks_end ht] at h
        cases h
        exact ⟨_, _, rfl, hge⟩
      · rw [toks_more ht hk] at h
        generalize hx : toksF F _ _ _ _ = y at h
        cases y with
        | ok r2 =>
          simp only [LexR.pre] at h
          cases h
          exact ⟨_, _, rfl, hge⟩
        | bad a b => cases h

theorem pre_ok {a r : List Tok} {x : LexR} (h : x.pre a = .ok r) : ∃ r2, x = .ok r2 ∧ r = a ++ r2 := by
  cases x with
  | ok r2 => cases h; exact ⟨r2, rfl, rfl⟩
  | bad a b => cases h

theorem drop_head {l r : List Tok} {t : Tok} {k : Nat} (h : l.drop k = t :: r) : l[k]? = some t ∧ k < l.length ∧ l.drop (k + 1) = r ∧ l.length = k + 1 + r.length := by
  have hk : k < l.length := by
    rcases Nat.lt_or_ge k l.length with h1 | h1
    · exact h1
    · rw [List.drop_eq_nil_of_le h1] at h; cases h
  rw [List.drop_eq_getElem_cons hk] at h
  injection h with h1 h2
  have h3 := congrArg List.length h2
  rw [List.length_drop] at h3
  exact ⟨by rw [List.getElem?_eq_getElem hk, h1], hk, h2, by omega⟩

theorem blanksF_le : ∀ {f l n line col : Nat}, (blanksF f l n line col).1 ≤ l
  | 0, l, n, line, col => Nat.le_refl _
  | f + 1, l, n, line, col => by
    by_cases h0 : l = 0
    · rw [blanks_end (.inl h0)]; exact Nat.le_refl _
    by_cases h1 : n % 256 = 32 ∨ n % 256 = 9
    · rw [blanks_blank (by omega) h1]
      have := blanksF_le (f := f) (l := l - 1) (n := n / 256) (line := line) (col := col + 1)
      omega
    by_cases h2 : n % 256 = 10
    · rw [blanks_line (by omega) h2]
      have := blanksF_le (f := f) (l := l - 1) (n := n / 256) (line := line + 1) (col := 1)
      omega
    by_cases h3 : n % 256 = 35
    · rw [blanks_word (by omega) h3]
      have := blanksF_le (f := f) (l := l - runP lineB l n) (n := n / 256 ^ runP lineB l n) (line := line) (col := col + runP lineB l n)
      omega
    · rw [blanks_end (.inr ⟨by omega, by omega, h2, h3⟩)]; exact Nat.le_refl _

theorem toksF_fuel : ∀ {f g l x line col : Nat}, l < f → l < g → toksF f l x line col = toksF g l x line col
  | 0, _, _, _, _, _, h, _ => by omega
  | _, 0, _, _, _, _, _, h => by omega
  | f + 1, g + 1, l, x, line, col, hf, hg => by
    have hb := blanksF_le (f := l) (l := l) (n := x) (line := line) (col := col)
    cases ht : tokM (blanksF l l x line col).1 (blanksF l l x line col).2.1 with
    | none => rw [toks_bad ht, toks_bad ht]
    | some t =>
      obtain ⟨kind, num, tl⟩ := t
      obtain ⟨h1, h2⟩ := tokM_facts ht
      by_cases hk : kind = 4
      · subst hk
        rw [toks_end ht, toks_end ht]
      · rw [toks_more ht hk, toks_more ht hk, toksF_fuel (f := f) (g := g) (by omega) (by omega)]

/-- Tokens, with as many rounds as are wanted. -/
def G (l x line col : Nat) : LexR := toksF (l + 1) l x line col

theorem g_def {l x line col : Nat} : toksF (l + 1) l x line col = G l x line col := rfl
theorem g_head {l x line col : Nat} {r : List Tok} (h : G l x line col = .ok r) : ∃ t r', r = t :: r' ∧ (line < t.line ∨ t.line = line ∧ col ≤ t.col) := toks_head h
theorem g_of {F l x line col : Nat} (h : l < F) : toksF F l x line col = G l x line col := toksF_fuel h (by omega)
theorem g_blank {l x line col : Nat} (h : 0 < l) (hb : x % 256 = 32 ∨ x % 256 = 9) : G l x line col = G (l - 1) (x / 256) line (col + 1) := by
  rw [← g_of (show l - 1 < l + 1 by omega), G]
  refine toks_of_blanks ?_
  obtain ⟨m, rfl⟩ : ∃ m, l = m + 1 := ⟨l - 1, by omega⟩
  rw [blanks_blank (by omega) hb]
  rfl
theorem g_line {l x line col : Nat} (h : 0 < l) (hb : x % 256 = 10) : G l x line col = G (l - 1) (x / 256) (line + 1) 1 := by
  rw [← g_of (show l - 1 < l + 1 by omega), G]
  refine toks_of_blanks ?_
  obtain ⟨m, rfl⟩ : ∃ m, l = m + 1 := ⟨l - 1, by omega⟩
  rw [blanks_line (by omega) hb]
  rfl
theorem g_rem {l x line col : Nat} (h : 0 < l) (hb : x % 256 = 35) : G l x line col = G (l - runP lineB l x) (x / 256 ^ runP lineB l x) line (col + runP lineB l x) := by
  rw [← g_of (show l - runP lineB l x < l + 1 by omega), G]
  refine toks_of_blanks ?_
  have hp : 0 < runP lineB l x := runP_pos h (by rw [hb]; rfl)
  obtain ⟨m, rfl⟩ : ∃ m, l = m + 1 := ⟨l - 1, by omega⟩
  rw [blanks_word (by omega) hb]
  exact blanksF_fuel (by omega) (by omega)
theorem g_bad {l x line col : Nat} (hb : x % 256 ≠ 32 ∧ x % 256 ≠ 9 ∧ x % 256 ≠ 10 ∧ x % 256 ≠ 35) (h : tokM l x = none) : G l x line col = .bad line col := by
  simp only [G, toksF, blanks_end (.inr hb), h]
theorem g_more {l x line col kind num tl : Nat} (hb : x % 256 ≠ 32 ∧ x % 256 ≠ 9 ∧ x % 256 ≠ 10 ∧ x % 256 ≠ 35) (h : tokM l x = some (kind, num, tl)) (hk : kind ≠ 4) :
    G l x line col = (G (l - tl) (x / 256 ^ tl) line (col + tl)).pre [⟨kind, num, line, col, tl, x % 256 ^ tl⟩] := by
  obtain ⟨h1, h2⟩ := tokM_facts h
  rw [← g_of (show l - tl < l by omega), G]
  simp only [toksF, blanks_end (.inr hb), h, beq_false_iff.mpr hk]
theorem g_end {x line col : Nat} : G 0 x line col = .ok [⟨4, 0, line, col, 0, 0⟩] := by
  simp only [G, toksF, blanks_end (.inl rfl), show tokM 0 x = some (4, 0, 0) from rfl]

/-! ### Lines -/

def Tok.down (t : Tok) (d : Nat) : Tok := { t with line := t.line + d }
def LexR.down (r : LexR) (d : Nat) : LexR := match r with
  | .ok l => .ok (l.map fun t => t.down d)
  | .bad a b => .bad (a + d) b
theorem LexR.pre_down {a : List Tok} {r : LexR} {d : Nat} : (r.pre a).down d = (r.down d).pre (a.map fun t => t.down d) := by
  cases r <;> simp [LexR.pre, LexR.down]

theorem g_down (d : Nat) : ∀ (l x line col : Nat), G l x (line + d) col = (G l x line col).down d := by
  intro l
  induction l using Nat.strongRecOn with
  | ind l ih =>
    intro x line col
    by_cases h0 : l = 0
    · subst h0; rw [g_end, g_end]; rfl
    by_cases h1 : x % 256 = 32 ∨ x % 256 = 9
    · rw [g_blank (by omega) h1, g_blank (by omega) h1, ih _ (by omega)]
    by_cases h2 : x % 256 = 10
    · rw [g_line (by omega) h2, g_line (by omega) h2, show line + d + 1 = line + 1 + d by omega, ih _ (by omega)]
    by_cases h3 : x % 256 = 35
    · have hp : 0 < runP lineB l x := runP_pos (by omega) (by rw [h3]; rfl)
      rw [g_rem (by omega) h3, g_rem (by omega) h3, ih _ (by omega)]
    · have hb : x % 256 ≠ 32 ∧ x % 256 ≠ 9 ∧ x % 256 ≠ 10 ∧ x % 256 ≠ 35 := ⟨by omega, by omega, h2, h3⟩
      cases ht : tokM l x with
      | none => rw [g_bad hb ht, g_bad hb ht]; rfl
      | some t =>
        obtain ⟨kind, num, tl⟩ := t
        obtain ⟨e1, e2⟩ := tokM_facts ht
        rw [g_more hb ht (by omega), g_more hb ht (by omega), ih _ (by omega), LexR.pre_down]
        rfl

/-- How many lines end in a text. -/
def cntNL : Nat → Nat → Nat
  | 0, _ => 0
  | l + 1, n => (match Nat.beq (n % 256) 10 with | true => 1 | false => 0) + cntNL l (n / 256)

theorem cnt_run {p : Nat → Bool} (hp : p 10 = false) : ∀ {l n : Nat}, cntNL l n = cntNL (l - runP p l n) (n / 256 ^ runP p l n)
  | 0, n => by simp [runP]
  | l + 1, n => by
    cases e : p (n % 256) with
    | false => simp [runP, e]
    | true =>
      have h10 : n % 256 ≠ 10 := fun h => by rw [h, hp] at e; cases e
      have ih := cnt_run (p := p) hp (l := l) (n := n / 256)
      simp only [runP, e, cntNL, beq_false_iff.mpr h10]
      rw [Nat.pow_succ, Nat.mul_comm, ← Nat.div_div_eq_div_mul, Nat.zero_add, ih, show l + 1 - (runP p l (n / 256) + 1) = l - runP p l (n / 256) by omega]
theorem cnt_one {l n : Nat} (h : 0 < l) (h10 : n % 256 ≠ 10) : cntNL l n = cntNL (l - 1) (n / 256) := by
  obtain ⟨m, rfl⟩ : ∃ m, l = m + 1 := ⟨l - 1, by omega⟩
  simp only [cntNL, beq_false_iff.mpr h10]
  rw [Nat.zero_add]
  rfl
theorem cnt_nl {l n : Nat} (h : 0 < l) (h10 : n % 256 = 10) : cntNL l n = 1 + cntNL (l - 1) (n / 256) := by
  obtain ⟨m, rfl⟩ : ∃ m, l = m + 1 := ⟨l - 1, by omega⟩
  simp only [cntNL, h10, Nat.beq_refl]
  rfl

/-- A token is a run, or one sign. -/
theorem tokM_run {l n kind num tl : Nat} (h0 : 0 < l) (h : tokM l n = some (kind, num, tl)) : (tl = runP innerB l n ∨ tl = runP digitB l n) ∨ tl = 1 := by
  unfold tokM at h
  rw [beq_false_iff.mpr (show l ≠ 0 by omega)] at h
  simp only at h
  split at h
  · split at h <;> simp at h
    exact .inl (.inl h.2.2.symm)
  · split at h
    · split at h <;> simp at h
      exact .inl (.inr h.2.2.symm)
    · split at h <;> simp at h
      exact .inr h.2.2.symm

theorem cnt_tok {l n kind num tl : Nat} (h0 : 0 < l) (h10 : n % 256 ≠ 10) (h : tokM l n = some (kind, num, tl)) : cntNL l n = cntNL (l - tl) (n / 256 ^ tl) := by
  rcases tokM_run h0 h with (rfl | rfl) | rfl
  · exact cnt_run rfl
  · exact cnt_run rfl
  · rw [Nat.pow_one]; exact cnt_one h0 h10

/-- The last token's line. -/
def lastL (r : List Tok) : Nat := match r.getLast? with
  | some t => t.line
  | none => 0
theorem lastL_cons {t : Tok} {r : List Tok} (h : r ≠ []) : lastL (t :: r) = lastL r := by
  unfold lastL
  rw [List.getLast?_cons]
  cases e : r.getLast? with
  | none => exact absurd (List.getLast?_eq_none_iff.mp e) h
  | some x => rfl

theorem g_ne {l x line col : Nat} {r : List Tok} (h : G l x line col = .ok r) : r ≠ [] := by
  obtain ⟨t, r', rfl, _⟩ := toks_head h
  simp

theorem g_lines : ∀ (l x line col : Nat) (r : List Tok), G l x line col = .ok r → lastL r = line + cntNL l x := by
  intro l
  induction l using Nat.strongRecOn with
  | ind l ih =>
    intro x line col r h
    by_cases h0 : l = 0
    · subst h0; rw [g_end] at h; cases h; rfl
    by_cases h1 : x % 256 = 32 ∨ x % 256 = 9
    · rw [g_blank (by omega) h1] at h
      rw [ih _ (by omega) _ _ _ _ h, cnt_one (l := l) (by omega) (by omega)]
    by_cases h2 : x % 256 = 10
    · rw [g_line (by omega) h2] at h
      rw [ih _ (by omega) _ _ _ _ h, cnt_nl (l := l) (by omega) h2]
      omega
    by_cases h3 : x % 256 = 35
    · have hp : 0 < runP lineB l x := runP_pos (by omega) (by rw [h3]; rfl)
      rw [g_rem (by omega) h3] at h
      rw [ih _ (by omega) _ _ _ _ h, ← cnt_run (p := lineB) (l := l) (n := x) rfl]
    · have hb : x % 256 ≠ 32 ∧ x % 256 ≠ 9 ∧ x % 256 ≠ 10 ∧ x % 256 ≠ 35 := ⟨by omega, by omega, h2, h3⟩
      cases ht : tokM l x with
      | none => rw [g_bad hb ht] at h; cases h
      | some t =>
        obtain ⟨kind, num, tl⟩ := t
        obtain ⟨e1, e2⟩ := tokM_facts ht
        rw [g_more hb ht (by omega)] at h
        obtain ⟨r2, hg, rfl⟩ := pre_ok h
        rw [List.singleton_append, lastL_cons (g_ne hg), ih _ (by omega) _ _ _ _ hg, cnt_tok (by omega) h2 ht]

/-! ### Texts with the same bytes, and a line's end behind the shorter -/

structure SameB (l n L k : Nat) : Prop where
  lt : l < L
  byte : ∀ j, j < l → k / 256 ^ j % 256 = n / 256 ^ j % 256
  nl : k / 256 ^ l % 256 = 10

theorem SameB.head {l n L k : Nat} (h : SameB l n L k) (h0 : 0 < l) : k % 256 = n % 256 := by
  have := h.byte 0 h0
  simpa using this
theorem SameB.tail {l n L k : Nat} (h : SameB l n L k) {m : Nat} (hm : m ≤ l) : SameB (l - m) (n / 256 ^ m) (L - m) (k / 256 ^ m) where
  lt := by have := h.lt; omega
  byte := fun j hj => by rw [div_pow_add, div_pow_add]; exact h.byte _ (by omega)
  nl := by rw [div_pow_add, show m + (l - m) = l by omega]; exact h.nl
theorem SameB.tail1 {l n L k : Nat} (h : SameB l n L k) (h0 : 0 < l) : SameB (l - 1) (n / 256) (L - 1) (k / 256) := by
  have := h.tail (m := 1) h0
  rwa [Nat.pow_one] at this

theorem SameB.run {p : Nat → Bool} (hp : p 10 = false) : ∀ {l n L k : Nat}, SameB l n L k → runP p L k = runP p l n
  | 0, n, L, k, h => by
    obtain ⟨M, rfl⟩ : ∃ M, L = M + 1 := ⟨L - 1, by have := h.lt; omega⟩
    have := h.nl
    rw [Nat.pow_zero, Nat.div_one] at this
    simp [runP, this, hp]
  | l + 1, n, L, k, h => by
    obtain ⟨M, rfl⟩ : ∃ M, L = M + 1 := ⟨L - 1, by have := h.lt; omega⟩
    have h1 := h.head (by omega)
    have h2 := SameB.run (p := p) hp (h.tail1 (by omega))
    simp only [runP, h1]
    rw [show M + 1 - 1 = M by omega, show l + 1 - 1 = l by omega] at h2
    rw [h2]

theorem SameB.part : ∀ {m l n L k : Nat}, SameB l n L k → m ≤ l → k % 256 ^ m = n % 256 ^ m
  | 0, l, n, L, k, h, hm => by rw [Nat.pow_zero, Nat.mod_one, Nat.mod_one]
  | m + 1, l, n, L, k, h, hm => by
    have h1 := h.head (by omega)
    have h2 := SameB.part (m := m) (h.tail1 (by omega)) (by omega)
    have e : ∀ y : Nat, y % 256 ^ (m + 1) = y % 256 + 256 * (y / 256 % 256 ^ m) := fun y => by
      rw [Nat.pow_succ, Nat.mul_comm, Nat.mod_mul]
    rw [e, e, h1, h2]

theorem SameB.tok {l n L k : Nat} (h : SameB l n L k) (h0 : 0 < l) : tokM L k = tokM l n := by
  have h1 := h.head h0
  have hi := h.run (p := innerB) rfl
  have hd := h.run (p := digitB) rfl
  have hL := h.lt
  have hp := h.part (runP_le digitB l n)
  unfold tokM
  rw [beq_false_iff.mpr (show L ≠ 0 by omega), beq_false_iff.mpr (show l ≠ 0 by omega), h1, hi, hd, hp]

/-- What comes of the longer text. -/
def joinR (r : LexR) (L k l : Nat) : LexR := match r with
  | .bad a b => .bad a b
  | .ok r => (G (L - (l + 1)) (k / 256 ^ (l + 1)) (lastL r + 1) 1).pre r.dropLast

theorem join_pre {t : Tok} {l x line col L k l' : Nat} : joinR ((G l x line col).pre [t]) L k l' = (joinR (G l x line col) L k l').pre [t] := by
  cases h : G l x line col with
  | bad a b => rfl
  | ok r =>
    have hr := g_ne h
    show (G _ _ (lastL (t :: r) + 1) 1).pre (t :: r).dropLast = ((G _ _ (lastL r + 1) 1).pre r.dropLast).pre [t]
    rw [lastL_cons hr, LexR.pre_pre]
    congr 1
    cases r with
    | nil => exact absurd rfl hr
    | cons a r => rfl

theorem g_join : ∀ (l n L k line col : Nat), SameB l n L k → G L k line col = joinR (G l n line col) L k l := by
  intro l
  induction l using Nat.strongRecOn with
  | ind l ih =>
    intro n L k line col h
    have hL := h.lt
    by_cases h0 : l = 0
    · subst h0
      have hn := h.nl
      rw [Nat.pow_zero, Nat.div_one] at hn
      rw [g_end, g_line (by omega) hn]
      show _ = (G (L - 1) (k / 256 ^ 1) (line + 1) 1).pre []
      rw [LexR.pre_nil, Nat.pow_one]
    have hh := h.head (by omega)
    have hst : ∀ m, m ≤ l → ∀ r, joinR r (L - m) (k / 256 ^ m) (l - m) = joinR r L k l := fun m hm r => by
      cases r with
      | bad a b => rfl
      | ok r =>
        show (G (L - m - (l - m + 1)) (k / 256 ^ m / 256 ^ (l - m + 1)) (lastL r + 1) 1).pre r.dropLast = (G (L - (l + 1)) (k / 256 ^ (l + 1)) (lastL r + 1) 1).pre r.dropLast
        rw [div_pow_add, show L - m - (l - m + 1) = L - (l + 1) by omega, show m + (l - m + 1) = l + 1 by omega]
    have hst1 : ∀ r, joinR r (L - 1) (k / 256) (l - 1) = joinR r L k l := fun r => by
      have := hst 1 (by omega) r
      rwa [Nat.pow_one] at this
    by_cases h1 : n % 256 = 32 ∨ n % 256 = 9
    · rw [g_blank (by omega) h1, g_blank (by omega) (by rw [hh]; exact h1), ih _ (by omega) _ _ _ _ _ (h.tail1 (by omega)), hst1]
    by_cases h2 : n % 256 = 10
    · rw [g_line (by omega) h2, g_line (by omega) (by rw [hh]; exact h2), ih _ (by omega) _ _ _ _ _ (h.tail1 (by omega)), hst1]
    by_cases h3 : n % 256 = 35
    · have hp : 0 < runP lineB l n := runP_pos (by omega) (by rw [h3]; rfl)
      have hr := h.run (p := lineB) rfl
      have hle := runP_le lineB l n
      rw [g_rem (by omega) h3, g_rem (by omega) (by rw [hh]; exact h3), hr, ih _ (by omega) _ _ _ _ _ (h.tail hle), hst _ hle]
    · have hb : n % 256 ≠ 32 ∧ n % 256 ≠ 9 ∧ n % 256 ≠ 10 ∧ n % 256 ≠ 35 := ⟨by omega, by omega, h2, h3⟩
      have hb2 : k % 256 ≠ 32 ∧ k % 256 ≠ 9 ∧ k % 256 ≠ 10 ∧ k % 256 ≠ 35 := by rw [hh]; exact hb
      have htt := h.tok (by omega)
      cases ht : tokM l n with
      | none => rw [g_bad hb ht, g_bad hb2 (htt.trans ht)]; rfl
      | some t =>
        obtain ⟨kind, num, tl⟩ := t
        obtain ⟨e1, e2⟩ := tokM_facts ht
        rw [g_more hb ht (by omega), g_more hb2 (htt.trans ht) (by omega), ih _ (by omega) _ _ _ _ _ (h.tail e1), hst _ e1, h.part e1, join_pre]

/-- Two texts, and a line's end between. -/
theorem sameB_join {X N Y M : Nat} (hN : N < 256 ^ X) : SameB X N (X + 1 + Y) (N + 10 * 256 ^ X + M * 256 ^ (X + 1)) where
  lt := by omega
  byte := fun j hj => by
    have e1 : (256 : Nat) ^ X = 256 ^ j * (256 * 256 ^ (X - j - 1)) := by rw [← Nat.pow_succ', ← Nat.pow_add]; congr 1; omega
    have e2 : (256 : Nat) ^ (X + 1) = 256 ^ j * (256 * 256 ^ (X - j)) := by rw [← Nat.pow_succ', ← Nat.pow_add]; congr 1; omega
    have e : N + 10 * 256 ^ X + M * 256 ^ (X + 1) = N + 256 ^ j * (256 * (10 * 256 ^ (X - j - 1) + M * 256 ^ (X - j))) := by
      rw [e1, e2, Nat.mul_add, Nat.mul_add, Nat.mul_left_comm 10, Nat.mul_left_comm M, Nat.mul_left_comm 10, Nat.mul_left_comm M, Nat.add_assoc]
    rw [e, Nat.add_mul_div_left _ _ (Nat.pow_pos (by omega)), Nat.add_mul_mod_self_left]
  nl := by
    have e2 : (256 : Nat) ^ (X + 1) = 256 ^ X * 256 := Nat.pow_succ ..
    have e : N + 10 * 256 ^ X + M * 256 ^ (X + 1) = N + 256 ^ X * (10 + 256 * M) := by
      rw [e2, Nat.mul_add, Nat.mul_comm 10, Nat.mul_left_comm M, Nat.mul_comm M, Nat.add_assoc]
    rw [e, Nat.add_mul_div_left _ _ (Nat.pow_pos (by omega)), Nat.div_eq_of_lt hN]
    omega
theorem join_rest {X N M : Nat} (hN : N < 256 ^ X) : (N + 10 * 256 ^ X + M * 256 ^ (X + 1)) / 256 ^ (X + 1) = M := by
  rw [Nat.add_mul_div_right _ _ (Nat.pow_pos (by omega)), Nat.div_eq_of_lt (by rw [Nat.pow_succ]; omega), Nat.zero_add]

theorem toks_join {X N Y M : Nat} (hN : N < 256 ^ X) : toksF (X + 1 + Y + 1) (X + 1 + Y) (N + 10 * 256 ^ X + M * 256 ^ (X + 1)) 1 1 = (match toksF (X + 1) X N 1 1 with
    | .bad a b => .bad a b
    | .ok r => ((toksF (Y + 1) Y M 1 1).down (1 + cntNL X N)).pre r.dropLast) := by
  show G _ _ 1 1 = (match G X N 1 1 with | .bad a b => LexR.bad a b | .ok r => ((G Y M 1 1).down (1 + cntNL X N)).pre r.dropLast)
  rw [g_join X N _ _ 1 1 (sameB_join hN)]
  cases h : G X N 1 1 with
  | bad a b => rfl
  | ok r =>
    show (G (X + 1 + Y - (X + 1)) _ (lastL r + 1) 1).pre r.dropLast = _
    rw [join_rest hN, g_lines _ _ _ _ _ h, show X + 1 + Y - (X + 1) = Y by omega, ← g_down, Nat.add_comm 1 (1 + cntNL X N)]

end Go.Proofs.YtjljgldgkkfckaaDoor.M
