/- LexForms: words, numbers of just their greatest length, and one longer; what no token has. -/
import Derived.Test.YtjljgldgkkfckaaDoorMLexJ
namespace Go.Proofs.YtjljgldgkkfckaaDoor.M
open Go
set_option linter.unusedSimpArgs false
set_option linter.unusedVariables false
variable {ρ : Nat → Value}

noncomputable def ovWord : OvT := ovF fun
  | [.ps len n] => some (Nat.ble len 140737488355328, .bool (wordM len n))
  | _ => none
theorem ovWord_ok : OvOK ρ Tryd.prog 15 ovWord := ov_says fun args v h => by
  split at h
  · injection h with h
    injection h with g1 g2
    subst g2
    exact word_says _ _ (Nat.le_of_ble_eq_true g1)
  · cases h

/-- A byte over and over. -/
def repB (b : Nat) : Nat → Nat
  | 0 => 0
  | i + 1 => repB b i + b * 256 ^ i

def isBad (r : LexR) (a b : Nat) : Bool := match r with
  | .bad x y => Nat.beq x a && Nat.beq y b
  | .ok _ => false
def isLenB (r : LexR) (k : Nat) : Bool := match r with
  | .ok l => Nat.beq l.length k
  | .bad _ _ => false
theorem isBad_ok {r : LexR} {a b : Nat} (h : isBad r a b = true) : r = .bad a b := by
  cases r with
  | bad x y =>
    simp only [isBad, Bool.and_eq_true, Nat.beq_eq] at h
    rw [h.1, h.2]
  | ok l => cases h
theorem isLenB_ok {r : LexR} {k : Nat} (h : isLenB r k = true) : ∃ l, r = .ok l ∧ l.length = k := by
  cases r with
  | bad x y => cases h
  | ok l => exact ⟨l, rfl, Nat.eq_of_beq_eq_true h⟩
def isAny (r : LexR) : Bool := match r with
  | .ok _ => true
  | .bad _ _ => false
theorem isAny_ok {r : LexR} (h : isAny r = true) : ∃ l, r = .ok l := by
  cases r with
  | bad x y => cases h
  | ok l => exact ⟨l, rfl⟩

theorem word_facts : ∀ n, n < 15 → 0 < n → wordM (16 - 0) ((repB 113 n + (packL ({ data := #[95, 48, 49, 50, 51, 52, 53, 54, 55, 56, 57, 97, 98, 99, 100, 101, 102, 103, 104] } : ByteArray).data.toList / 256 ^ 0 % 256 ^ (16 - n + 1)).mul (Nat.pow 256 n)) / 256 ^ 0 % 256 ^ (16 - 0)) = true ∧
    wordM (n + (16 - n + 1) + ({ data := #[120] } : ByteArray).size) (repB 113 n + (packL ({ data := #[95, 48, 49, 50, 51, 52, 53, 54, 55, 56, 57, 97, 98, 99, 100, 101, 102, 103, 104] } : ByteArray).data.toList / 256 ^ 0 % 256 ^ (16 - n + 1)).mul (Nat.pow 256 n) + (packL ({ data := #[120] } : ByteArray).data.toList).mul (Nat.pow 256 (n + (16 - n + 1)))) = false ∧
    wordM (({ data := #[49] } : ByteArray).size + n) (packL ({ data := #[49] } : ByteArray).data.toList + (repB 113 n).mul (Nat.pow 256 ({ data := #[49] } : ByteArray).size)) = false := by decide +kernel
theorem num_facts : ∀ n, n < 15 → 0 < n → (n ≤ 9 → isAny (toksF (1 + n + 1) (1 + n) (32 + (repB 55 n) * 256 ^ 1) 1 1) = true) ∧ (9 < n → isBad (toksF (1 + n + 1) (1 + n) (32 + (repB 55 n) * 256 ^ 1) 1 1) 1 2 = true) ∧
    isBad (toksF (1 + n + 1) (1 + n) (48 + (repB 55 n) * 256 ^ 1) 1 1) 1 1 = true := by decide +kernel
theorem isAnyN_ok {r : LexR} (h : isAny r = false) : ∃ a b, r = .bad a b := by
  cases r with
  | bad x y => exact ⟨x, y, rfl⟩
  | ok l => cases h
def plainP (c : Nat) : Prop := 97 ≤ c ∧ c ≤ 122 ∨ 48 ≤ c ∧ c ≤ 57 ∨ c = 95 ∨ c = 35
instance (c : Nat) : Decidable (plainP c) := by unfold plainP; infer_instance
def byteOK (c : Nat) : Bool := (bif decide (plainP c) then isLenB (toksF 4 3 (97 + c * 256 ^ 1 + 98 * 256 ^ 2) 1 1) 2 else bif (Nat.beq c 32 || Nat.beq c 9 || Nat.beq c 10) then isLenB (toksF 4 3 (97 + c * 256 ^ 1 + 98 * 256 ^ 2) 1 1) 3 else bif signB c then isLenB (toksF 4 3 (97 + c * 256 ^ 1 + 98 * 256 ^ 2) 1 1) 4 else !isAny (toksF 4 3 (97 + c * 256 ^ 1 + 98 * 256 ^ 2) 1 1)) && (hasB signsL signsN c == signB c)
theorem byte_ok : ∀ c, c < 256 → byteOK c = true := by decide +kernel
theorem byte_facts (c : Nat) (hc : c < 256) : (plainP c → isLenB (toksF 4 3 (97 + c * 256 ^ 1 + 98 * 256 ^ 2) 1 1) 2 = true) ∧ (¬ plainP c → c = 32 ∨ c = 9 ∨ c = 10 → isLenB (toksF 4 3 (97 + c * 256 ^ 1 + 98 * 256 ^ 2) 1 1) 3 = true) ∧
    (¬ plainP c → ¬ (c = 32 ∨ c = 9 ∨ c = 10) → signB c = true → isLenB (toksF 4 3 (97 + c * 256 ^ 1 + 98 * 256 ^ 2) 1 1) 4 = true) ∧
    (¬ plainP c → ¬ (c = 32 ∨ c = 9 ∨ c = 10) → signB c = false → isAny (toksF 4 3 (97 + c * 256 ^ 1 + 98 * 256 ^ 2) 1 1) = false) ∧ (hasB signsL signsN c = signB c) := by
  have h := byte_ok c hc
  unfold byteOK at h
  rw [Bool.and_eq_true] at h
  obtain ⟨h1, h2⟩ := h
  have e : (Nat.beq c 32 || Nat.beq c 9 || Nat.beq c 10) = decide (c = 32 ∨ c = 9 ∨ c = 10) := by
    rw [Bool.eq_iff_iff]; simp only [Bool.or_eq_true, Nat.beq_eq, decide_eq_true_eq]; omega
  rw [e] at h1
  refine ⟨fun a => ?_, fun a b => ?_, fun a b d => ?_, fun a b d => ?_, by simpa using h2⟩
  · rwa [decide_eq_true a, cond_true] at h1
  · rwa [decide_eq_false a, cond_false, decide_eq_true b, cond_true] at h1
  · rwa [decide_eq_false a, cond_false, decide_eq_false b, cond_false, d, cond_true] at h1
  · rw [decide_eq_false a, cond_false, decide_eq_false b, cond_false, d, cond_false] at h1
    simpa using h1

theorem word_nil : wordM ({ data := #[] } : ByteArray).size (packL ({ data := #[] } : ByteArray).data.toList) = false := by decide +kernel
theorem word_Q : wordM ({ data := #[81] } : ByteArray).size (packL ({ data := #[81] } : ByteArray).data.toList) = false := by decide +kernel

/-- The text of three bytes, as it is built. -/
theorem text3 (c : Nat) : packL ({ data := #[97] } : ByteArray).data.toList + (c + Nat.mul 256 Nat.zero).mul (Nat.pow 256 ({ data := #[97] } : ByteArray).size) + (packL ({ data := #[98] } : ByteArray).data.toList).mul (Nat.pow 256 (({ data := #[97] } : ByteArray).size + 1)) = 97 + c * 256 ^ 1 + 98 * 256 ^ 2 := by
  have h1 : packL ({ data := #[97] } : ByteArray).data.toList = 97 := by decide +kernel
  have h2 : packL ({ data := #[98] } : ByteArray).data.toList = 98 := by decide +kernel
  have h3 : c + Nat.mul 256 Nat.zero = c := rfl
  have h4 : Nat.pow 256 ({ data := #[97] } : ByteArray).size = 256 := by decide +kernel
  have h5 : Nat.pow 256 (({ data := #[97] } : ByteArray).size + 1) = 65536 := by decide +kernel
  rw [h1, h2, h3, h4, h5]
  have h6 : Nat.mul c 256 = c * 256 := rfl
  have h7 : Nat.mul 98 65536 = 6422528 := by decide +kernel
  rw [h6, h7]
theorem toks3 (c : Nat) : toksF (({ data := #[97] } : ByteArray).size + 1 + ({ data := #[98] } : ByteArray).size + 1) (({ data := #[97] } : ByteArray).size + 1 + ({ data := #[98] } : ByteArray).size) (packL ({ data := #[97] } : ByteArray).data.toList + (c + Nat.mul 256 Nat.zero).mul (Nat.pow 256 ({ data := #[97] } : ByteArray).size) + (packL ({ data := #[98] } : ByteArray).data.toList).mul (Nat.pow 256 (({ data := #[97] } : ByteArray).size + 1))) 1 1 = toksF 4 3 (97 + c * 256 ^ 1 + 98 * 256 ^ 2) 1 1 := by
  rw [text3]
  have h1 : ({ data := #[97] } : ByteArray).size + 1 + ({ data := #[98] } : ByteArray).size = 3 := by decide +kernel
  rw [h1]

theorem signRows : V.ro 1 [[V.int .u8 40], [V.int .u8 41], [V.int .u8 123], [V.int .u8 125], [V.int .u8 91], [V.int .u8 93], [V.int .u8 44], [V.int .u8 59], [V.int .u8 58], [V.int .u8 61], [V.int .u8 46], [V.int .u8 43], [V.int .u8 45], [V.int .u8 42], [V.int .u8 60], [V.int .u8 94], [V.int .u8 33], [V.int .u8 63]] = V.ro 1 (byteRows 18 signsN) := rfl

end Go.Proofs.YtjljgldgkkfckaaDoor.M
