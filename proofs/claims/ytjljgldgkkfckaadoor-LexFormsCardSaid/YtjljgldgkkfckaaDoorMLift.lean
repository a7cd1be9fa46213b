/- Proofs with unknowns: where the evaluator stands still, and what then; loops; calls that are answered otherwise; what is made afresh, handed back as what nobody writes. -/
import Derived.Test.YtjljgldgkkfckaaDoorMLaw
namespace Go.Proofs.YtjljgldgkkfckaaDoor.M
open Go Go.RowKit
set_option linter.unusedSimpArgs false
set_option linter.unusedVariables false

variable {ρ : Nat → Value} {P : Program}

/-! ### Where it stands still -/

theorem forceB_ok {b : Bool} {k : Bool → Ans} (h : k b = .ok) : forceB b k = .ok := by rw [forceB_eq]; exact h
theorem forceN_ok {b : Nat} {k : Nat → Ans} (h : k b = .ok) : forceN b k = .ok := by rw [forceN_eq]; exact h
theorem forceZ_ok {b : Int} {k : Int → Ans} (h : k b = .ok) : forceZ b k = .ok := by rw [forceZ_eq]; exact h
theorem valK_ok {v : V} {k : V → Ans} (h : k v = .ok) : valK v k = .ok := h
theorem valK_as {v : V} (v' : V) {k : V → Ans} (e : v = v') (h : k v' = .ok) : valK v k = .ok := by subst e; exact h
/-- A number, said otherwise. -/
theorem forceZ_as {b : Int} (c : Int) {k : Int → Ans} (e : b = c) (h : k c = .ok) : forceZ b k = .ok := by rw [forceZ_eq, e]; exact h
theorem forceN_as {b : Nat} (c : Nat) {k : Nat → Ans} (e : b = c) (h : k c = .ok) : forceN b k = .ok := by rw [forceN_eq, e]; exact h

theorem br_true {b : Bool} {y n : Ans} (hb : b = true) (h : y = .ok) : Bool.rec (motive := fun _ => AnsT) n y b = .ok := by subst hb; exact h
theorem br_false {b : Bool} {y n : Ans} (hb : b = false) (h : n = .ok) : Bool.rec (motive := fun _ => AnsT) n y b = .ok := by subst hb; exact h
theorem br_split {b : Bool} {y n : Ans} (h1 : b = true → y = .ok) (h2 : b = false → n = .ok) : Bool.rec (motive := fun _ => AnsT) n y b = .ok := by
  cases b
  · exact h2 rfl
  · exact h1 rfl
theorem br_ble {a b : Nat} {y n : Ans} (h1 : a ≤ b → y = .ok) (h2 : b < a → n = .ok) : Bool.rec (motive := fun _ => AnsT) n y (Nat.ble a b) = .ok :=
  br_split (fun h => h1 (Nat.le_of_ble_eq_true h)) fun h => h2 (by have := ble_false h; omega)
theorem br_beq {a b : Nat} {y n : Ans} (h1 : a = b → y = .ok) (h2 : a ≠ b → n = .ok) : Bool.rec (motive := fun _ => AnsT) n y (Nat.beq a b) = .ok :=
  br_split (fun h => h1 (Nat.eq_of_beq_eq_true h)) fun h => h2 (fun e => by subst e; rw [Nat.beq_refl] at h; cases h)
theorem br_dec {p : Prop} [Decidable p] {y n : Ans} (h1 : p → y = .ok) (h2 : ¬ p → n = .ok) : Bool.rec (motive := fun _ => AnsT) n y (decide p) = .ok :=
  br_split (fun h => h1 (of_decide_eq_true h)) fun h => h2 (of_decide_eq_false h)

theorem br_ble_t {a b : Nat} {y n : Ans} (h : a ≤ b) (hy : y = .ok) : Bool.rec (motive := fun _ => AnsT) n y (Nat.ble a b) = .ok := br_true (Nat.ble_eq_true_of_le h) hy
theorem br_ble_f {a b : Nat} {y n : Ans} (h : b < a) (hn : n = .ok) : Bool.rec (motive := fun _ => AnsT) n y (Nat.ble a b) = .ok := br_ble (fun g => by omega) fun _ => hn
theorem br_beq_t {a b : Nat} {y n : Ans} (h : a = b) (hy : y = .ok) : Bool.rec (motive := fun _ => AnsT) n y (Nat.beq a b) = .ok := br_beq (fun _ => hy) fun g => (g h).elim
theorem br_beq_f {a b : Nat} {y n : Ans} (h : a ≠ b) (hn : n = .ok) : Bool.rec (motive := fun _ => AnsT) n y (Nat.beq a b) = .ok := br_beq (fun g => (h g).elim) fun _ => hn

theorem br_max {a : Nat} {y n : Ans} (h : a ≤ 9223372036854775807) (hy : y = .ok) : Bool.rec (motive := fun _ => AnsT) n y (Nat.ble a (maxK .i64)) = .ok := br_true (Nat.ble_eq_true_of_le h) hy
theorem forceN_add {a b : Nat} {k : Nat → Ans} (h : k (a + b) = .ok) : forceN (Nat.add a b) k = .ok := forceN_ok h
theorem forceN_sub {a b : Nat} {k : Nat → Ans} (h : k (a - b) = .ok) : forceN (Nat.sub a b) k = .ok := forceN_ok h
theorem forceN_mul {a b : Nat} {k : Nat → Ans} (h : k (a * b) = .ok) : forceN (Nat.mul a b) k = .ok := forceN_ok h
theorem forceN_suc {a : Nat} {k : Nat → Ans} (h : k (a + 1) = .ok) : forceN (Nat.succ a) k = .ok := forceN_ok h
theorem forceN_byte {a b c : Nat} {k : Nat → Ans} (h : k (a / 256 ^ b % c) = .ok) : forceN (Nat.mod (Nat.div a (Nat.pow 256 b)) c) k = .ok := forceN_ok h
theorem forceN_part {a b c : Nat} {k : Nat → Ans} (h : k (a / 256 ^ b % 256 ^ c) = .ok) : forceN (Nat.mod (Nat.div a (Nat.pow 256 b)) (Nat.pow 256 c)) k = .ok := forceN_ok h
theorem forceZ_add {a b : Nat} {k : Int → Ans} (h : k (.ofNat (a + b)) = .ok) : forceZ (.ofNat (Nat.add a b)) k = .ok := forceZ_ok h
theorem forceZ_sub {a b : Nat} {k : Int → Ans} (h : k (.ofNat (a - b)) = .ok) : forceZ (.ofNat (Nat.sub a b)) k = .ok := forceZ_ok h

theorem forceZ_mul {a b : Nat} {k : Int → Ans} (ha : a * b ≤ 9223372036854775807) (h : k (.ofNat (a * b)) = .ok) : forceZ (IntKind.i64.wrap (.ofNat a * .ofNat b)) k = .ok := by
  have e : IntKind.i64.wrap (.ofNat a * .ofNat b) = .ofNat (a * b) := wrap_small (k := .i64) ha
  rw [e]
  exact forceZ_ok h
theorem beq_false_iff {a b : Nat} : Nat.beq a b = false ↔ a ≠ b := by
  rw [← Bool.not_eq_true, Nat.beq_eq]
theorem ble_false_iff {a b : Nat} : Nat.ble a b = false ↔ b < a := by
  rw [← Bool.not_eq_true, Nat.ble_eq]; omega

theorem rowAt_ok {rows : List (List V)} {i : Nat} {row : List V} {k : List V → Ans} (h : rows[i]? = some row) (hk : k row = .ok) : rowAt rows i k = .ok := by
  induction rows generalizing i with
  | nil => simp at h
  | cons x rows ih =>
    cases i with
    | zero => simp at h; subst h; exact hk
    | succ i => exact ih (by simpa using h)

/-! ### Objects by numbers that are not known -/

theorem acc4_get_ok {hp : Hp} {k : Nat} {ob : KOb} {K : KOb → Ans} (hk : k < 65536) (h : get4 hp k = ob) (hK : K ob = .ok) : (acc4 KOb k).get hp K = .ok := by
  have e := acc4_pr (n := hp) hk
  rw [acc4_D hk] at e ⊢
  show K ((acc4D KOb (k / 4096) (k % 4096)).pr hp) = .ok
  rw [e, h]
  exact hK
theorem acc_upd_ok {α : Type} {i : Nat} {n : N16 α} {v : α} {k : N16 α → Ans} (hi : i < 16) (h : k (n.put i v) = .ok) : (acc α i).upd n v k = .ok := by
  obtain ⟨a0, a1, a2, a3, a4, a5, a6, a7, a8, a9, a10, a11, a12, a13, a14, a15⟩ := n
  have h1 : i = 0 ∨ i = 1 ∨ i = 2 ∨ i = 3 ∨ i = 4 ∨ i = 5 ∨ i = 6 ∨ i = 7 ∨ i = 8 ∨ i = 9 ∨ i = 10 ∨ i = 11 ∨ i = 12 ∨ i = 13 ∨ i = 14 ∨ i = 15 := by omega
  rcases h1 with rfl | rfl | rfl | rfl | rfl | rfl | rfl | rfl | rfl | rfl | rfl | rfl | rfl | rfl | rfl | rfl <;> exact h
theorem acc2_upd_ok {α : Type} {i : Nat} {n : N16 (N16 α)} {v : α} {k : N16 (N16 α) → Ans} (hi : i < 256) (h : k (put2 n i v) = .ok) : (acc2 α i).upd n v k = .ok := by
  rw [acc2_D hi]
  show ((acc α (i % 16)).upd ((acc (N16 α) (i / 16)).pr n) v fun m' => (acc (N16 α) (i / 16)).upd n m' k) = .ok
  rw [acc_pr (by omega)]
  exact acc_upd_ok (by omega) (acc_upd_ok (by omega) h)
theorem acc3_upd_ok {α : Type} {i : Nat} {n : N16 (N16 (N16 α))} {v : α} {k : N16 (N16 (N16 α)) → Ans} (hi : i < 4096) (h : k (put3 n i v) = .ok) : (acc3 α i).upd n v k = .ok := by
  rw [acc3_D hi]
  show ((acc2 α (i % 256)).upd ((acc (N16 (N16 α)) (i / 256)).pr n) v fun m' => (acc (N16 (N16 α)) (i / 256)).upd n m' k) = .ok
  rw [acc_pr (by omega)]
  exact acc2_upd_ok (by omega) (acc_upd_ok (by omega) h)
theorem acc4_upd_ok {hp : Hp} {k : Nat} {ob : KOb} {K : Hp → Ans} (hi : k < 65536) (h : K (put4 hp k ob) = .ok) : (acc4 KOb k).upd hp ob K = .ok := by
  rw [acc4_D hi]
  show ((acc3 KOb (k % 4096)).upd ((acc (N16 (N16 (N16 KOb))) (k / 4096)).pr hp) ob fun m' => (acc (N16 (N16 (N16 KOb))) (k / 4096)).upd hp m' K) = .ok
  rw [acc_pr (by omega)]
  exact acc3_upd_ok (by omega) (acc_upd_ok (by omega) h)

theorem get4_same {hp : Hp} {i : Nat} {v : KOb} (hi : i < 65536) : get4 (put4 hp i v) i = v := by rw [get_put4 _ _ _ _ hi hi, if_pos rfl]
theorem get4_other {hp : Hp} {i j : Nat} {v ob : KOb} (hi : i < 65536) (hj : j < 65536) (hn : j ≠ i) (h : get4 hp j = ob) : get4 (put4 hp i v) j = ob := by rw [get_put4 _ _ _ _ hi hj, if_neg hn]; exact h

theorem acc4_get_same {hp : Hp} {i : Nat} {v : KOb} {K : KOb → Ans} (hi : i < 65536) (h : K v = .ok) : (acc4 KOb i).get (put4 hp i v) K = .ok := acc4_get_ok hi (get4_same hi) h
theorem acc4_get_other {hp : Hp} {i j : Nat} {v : KOb} {K : KOb → Ans} (hi : i < 65536) (hj : j < 65536) (hn : j ≠ i) (h : (acc4 KOb j).get hp K = .ok) : (acc4 KOb j).get (put4 hp i v) K = .ok :=
  acc4_get_ok hj (get4_other hi hj hn rfl) (by obtain ⟨_, h⟩ := acc4_get h; exact h)

/-- Something, or nothing. -/
noncomputable def optX {α : Type} (x : Option α) (n : Ans) (y : α → Ans) : Ans := Option.rec (motive := fun _ => AnsT) n y x
theorem optX_inv {α : Type} {x : Option α} {n : Ans} {y : α → Ans} (h : optX x n y = .ok) : (x = none ∧ n = .ok) ∨ ∃ a, x = some a ∧ y a = .ok := by
  cases x with
  | none => exact .inl ⟨rfl, h⟩
  | some a => exact .inr ⟨a, rfl, h⟩
theorem opt_split {α : Type} {x : Option α} {n : Ans} {y : α → Ans} (h1 : x = none → n = .ok) (h2 : ∀ a, x = some a → y a = .ok) : Option.rec (motive := fun _ => AnsT) n y x = .ok := by
  cases x with
  | none => exact h1 rfl
  | some a => exact h2 a rfl

theorem opt3_split {x : Option (Nat × Nat × Nat)} {n : Ans} {y : Nat × Nat × Nat → Ans} (h1 : x = none → n = .ok) (h2 : ∀ a b c, x = some (a, b, c) → y (a, b, c) = .ok) : Option.rec (motive := fun _ => AnsT) n y x = .ok :=
  opt_split h1 fun ⟨a, b, c⟩ h => h2 a b c h

theorem int_split {z : Int} {f g : Nat → Ans} (h1 : ∀ a, z = .ofNat a → f a = .ok) (h2 : ∀ a, z = .negSucc a → g a = .ok) : Int.rec (motive := fun _ => AnsT) f g z = .ok := by
  cases z with
  | ofNat a => exact h1 a rfl
  | negSucc a => exact h2 a rfl

/-! ### Loops -/

theorem big_lt {m : Nat} (h : m < 18446744073709551616) : m < rounds0 := by unfold rounds0; exact h

/-- A loop: what holds at its head; a measure. -/
theorem loop_ok {c : Env → K3 → Tm → Hp → Nat → Ans} {E : Env} (I : Nat → Tm → Hp → Nat → Prop) {m : Nat} {tm : Tm} {hp : Hp} {nx : Nat} (hm : m < 18446744073709551616) (h0 : I m tm hp nx)
    (step : ∀ (m : Nat) (tm : Tm) (hp : Hp) (nx : Nat), I m tm hp nx → ∀ k : K3, (∀ (m' : Nat) (tm' : Tm) (hp' : Hp) (nx' : Nat), m' < m → I m' tm' hp' nx' → k tm' hp' nx' = .ok) → c E k tm hp nx = .ok) :
    roundsK c E rounds0 tm hp nx = .ok := by
  have key : ∀ (R m : Nat) (tm : Tm) (hp : Hp) (nx : Nat), m < R → I m tm hp nx → roundsK c E R tm hp nx = .ok := by
    intro R
    induction R with
    | zero => intro m _ _ _ h; omega
    | succ R ih =>
      intro m tm hp nx hlt hI
      exact step m tm hp nx hI (roundsK c E R) fun m' tm' hp' nx' h1 h2 => ih m' tm' hp' nx' (by omega) h2
  exact key _ m tm hp nx (big_lt hm) h0

/-! ### Calls that are answered otherwise -/

@[reducible] def OvT : Type := List V → List PC → Hp → Nat → (V → Hp → Nat → Ans) → (V → Hp → Nat → Ans) → Ans

def OvOK (ρ : Nat → Value) (P : Program) (f : FuncId) (c : OvT) : Prop :=
  ∀ (args : List V) (forb : List PC) (hp : Hp) (nx : Nat) (kr kp : V → Hp → Nat → Ans), c args forb hp nx kr kp = .ok → QCalls ρ P f args (absO hp) nx (inL forb) (RK kr kp)

noncomputable def over (f0 : FuncId) (c0 : OvT) (c : CallT) : CallT := fun f args forb hp nx kr kp => boolK (Nat.beq f f0) (c0 args forb hp nx kr kp) (c f args forb hp nx kr kp)

theorem over_ok {f0 : FuncId} {c0 : OvT} {c : CallT} (h0 : OvOK ρ P f0 c0) (hc : CallOK ρ P c) : CallOK ρ P (over f0 c0 c) := by
  intro f args forb hp nx kr kp h
  rcases boolK_inv h with ⟨h1, h⟩ | ⟨h1, h⟩
  · rw [Nat.eq_of_beq_eq_true h1]; exact h0 args forb hp nx kr kp h
  · exact hc f args forb hp nx kr kp h

noncomputable def call0 : CallT := fun _ _ _ _ _ _ _ => .err 81
theorem call0_ok : CallOK ρ P call0 := fun _ _ _ _ _ _ _ h => Ans.no h

/-- A function whose body runs to its end, whatever the call says. -/
theorem ov_of_body (hm : P.follows .mixedOrders = true) {G : Gl} (hG : GOK' P G) {f : FuncId} {c0 : OvT} {call : CallT} (hc : CallOK ρ P call)
    (h : ∀ args forb hp nx kr kp, c0 args forb hp nx kr kp = .ok → (bdy P G f).run call args forb hp nx kr kp = .ok) : OvOK ρ P f c0 :=
  fun args forb hp nx kr kp hk => bdy_sound hm hG hc (h args forb hp nx kr kp hk)

/-- An answer that hangs on the arguments alone. -/
noncomputable def pureOv (F : List V → (V → Ans) → Ans) : OvT := fun args _ hp nx kr _ => F args fun v => kr v hp nx

end Go.Proofs.YtjljgldgkkfckaaDoor.M
