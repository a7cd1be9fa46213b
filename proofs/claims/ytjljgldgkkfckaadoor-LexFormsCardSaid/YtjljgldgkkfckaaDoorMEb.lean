/- Quiet operations, as the kernel runs them: sums, tests, conversions, parts of slices, structs. -/
import Derived.Test.YtjljgldgkkfckaaDoorMEq
namespace Go.Proofs.YtjljgldgkkfckaaDoor.M
open Go Go.RowKit
set_option linter.unusedSimpArgs false
set_option linter.unusedVariables false

variable {ρ : Nat → Value} {P : Program}

def numK : IntKind → Nat
  | .i8 => 0 | .i16 => 1 | .i32 => 2 | .i64 => 3 | .u8 => 4 | .u16 => 5 | .u32 => 6 | .u64 => 7
theorem numK_inj {k k' : IntKind} (h : Nat.beq (numK k) (numK k') = true) : k = k' := by
  cases k <;> cases k' <;> first | rfl | cases h

def maxK : IntKind → Nat
  | .i8 => 127 | .i16 => 32767 | .i32 => 2147483647 | .i64 => 9223372036854775807 | .u8 => 255 | .u16 => 65535 | .u32 => 4294967295 | .u64 => 18446744073709551615
theorem wrap_small {k : IntKind} {n : Nat} (h : n ≤ maxK k) : k.wrap (Int.ofNat n) = Int.ofNat n := by
  have e : (Int.ofNat n) = (n : Int) := rfl
  cases k <;> simp only [maxK] at h <;> simp [IntKind.wrap, IntKind.bits, IntKind.signed, e] <;> omega

/-- A value that was reckoned, made plain. -/
noncomputable def giveV (v : V) (kk : V → Ans) : Ans := v.onIB (fun k n => forceZ n fun n => kk (.int k n)) (fun b => forceB b fun b => kk (.bool b))
theorem giveV_inv {v : V} {kk : V → Ans} (h : giveV v kk = .ok) : kk v = .ok := by
  rcases V.onIB_inv h with ⟨k, n, rfl, h9⟩ | ⟨b, rfl, h9⟩
  · rwa [forceZ_eq] at h9
  · rwa [forceB_eq] at h9

noncomputable def optK {α : Type} (x : Option α) (k : α → Ans) : Ans := Option.rec (motive := fun _ => AnsT) (Ans.err 60) k x
theorem optK_inv {α : Type} {x : Option α} {k : α → Ans} (h : optK x k = .ok) : ∃ a, x = some a ∧ k a = .ok := by
  cases x with
  | none => exact Ans.no h
  | some a => exact ⟨a, rfl, h⟩

noncomputable def genI (op : BinOp) (k : IntKind) (m n : Int) (kk : V → Ans) : Ans := optK (binI op k m n) fun v => giveV v kk
theorem genI_inv {op : BinOp} {k : IntKind} {m n : Int} {kk : V → Ans} (h : genI op k m n kk = .ok) : ∃ v, binI op k m n = some v ∧ kk v = .ok := by
  obtain ⟨v, h1, h2⟩ := optK_inv h
  exact ⟨v, h1, giveV_inv h2⟩

structure NatI where
  run : IntKind → Nat → Nat → (V → Ans) → Ans

noncomputable def natI (op : BinOp) : NatI := match op with
  | .add => ⟨fun k a b kk => forceN (Nat.add a b) fun c => boolK (Nat.ble c (maxK k)) (kk (.int k (.ofNat c))) (genI .add k (.ofNat a) (.ofNat b) kk)⟩
  | .sub => ⟨fun k a b kk => boolK (Nat.ble b a) (forceN (Nat.sub a b) fun c => boolK (Nat.ble c (maxK k)) (kk (.int k (.ofNat c))) (genI .sub k (.ofNat a) (.ofNat b) kk)) (genI .sub k (.ofNat a) (.ofNat b) kk)⟩
  | .eql => ⟨fun k a b kk => boolK (Nat.beq a b) (kk (.bool true)) (kk (.bool false))⟩
  | .neq => ⟨fun k a b kk => boolK (Nat.beq a b) (kk (.bool false)) (kk (.bool true))⟩
  | .lss => ⟨fun k a b kk => boolK (Nat.ble (Nat.succ a) b) (kk (.bool true)) (kk (.bool false))⟩
  | .leq => ⟨fun k a b kk => boolK (Nat.ble a b) (kk (.bool true)) (kk (.bool false))⟩
  | .gtr => ⟨fun k a b kk => boolK (Nat.ble (Nat.succ b) a) (kk (.bool true)) (kk (.bool false))⟩
  | .geq => ⟨fun k a b kk => boolK (Nat.ble b a) (kk (.bool true)) (kk (.bool false))⟩
  | op => ⟨fun k a b kk => genI op k (.ofNat a) (.ofNat b) kk⟩

theorem ble_false {a b : Nat} (h : Nat.ble a b = false) : ¬ a ≤ b := fun g => by rw [Nat.ble_eq_true_of_le g] at h; cases h
theorem beq_false' {a b : Nat} (h : Nat.beq a b = false) : a ≠ b := fun g => by subst g; rw [Nat.beq_refl] at h; cases h

theorem natI_inv {op : BinOp} {k : IntKind} {a b : Nat} {kk : V → Ans} (h : (natI op).run k a b kk = .ok) : ∃ v, binI op k (.ofNat a) (.ofNat b) = some v ∧ kk v = .ok := by
  cases op
  case add =>
    have h : (forceN (Nat.add a b) fun c => boolK (Nat.ble c (maxK k)) (kk (.int k (.ofNat c))) (genI .add k (.ofNat a) (.ofNat b) kk)) = .ok := h
    rw [forceN_eq] at h
    rcases boolK_inv h with ⟨h1, h⟩ | ⟨_, h⟩
    · refine ⟨_, ?_, h⟩
      have := wrap_small (Nat.le_of_ble_eq_true h1)
      show some (V.int k (k.wrap (Int.ofNat (Nat.add a b)))) = _
      rw [this]
    · exact genI_inv h
  case sub =>
    rcases boolK_inv h with ⟨h0, h⟩ | ⟨_, h⟩
    · rw [forceN_eq] at h
      rcases boolK_inv h with ⟨h1, h⟩ | ⟨_, h⟩
      · refine ⟨_, ?_, h⟩
        have := wrap_small (Nat.le_of_ble_eq_true h1)
        have e : (Int.ofNat a - Int.ofNat b : Int) = Int.ofNat (a - b) := by
          have := Nat.le_of_ble_eq_true h0
          show (a : Int) - (b : Int) = ((a - b : Nat) : Int)
          omega
        show some (V.int k (k.wrap (Int.ofNat a - Int.ofNat b))) = _
        rw [e]
        exact congrArg (fun x => some (V.int k x)) this
      · exact genI_inv h
    · exact genI_inv h
  case eql =>
    rcases boolK_inv h with ⟨h1, h⟩ | ⟨h1, h⟩ <;> refine ⟨_, ?_, h⟩
    · have := Nat.eq_of_beq_eq_true h1; subst this; simp [binI]
    · have := beq_false' h1
      simp only [binI, Option.some.injEq, V.bool.injEq]
      simp; omega
  case neq =>
    rcases boolK_inv h with ⟨h1, h⟩ | ⟨h1, h⟩ <;> refine ⟨_, ?_, h⟩
    · have := Nat.eq_of_beq_eq_true h1; subst this; simp [binI]
    · have := beq_false' h1
      simp only [binI, Option.some.injEq, V.bool.injEq]
      simp; omega
  case lss =>
    rcases boolK_inv h with ⟨h1, h⟩ | ⟨h1, h⟩ <;> refine ⟨_, ?_, h⟩
    · have := Nat.le_of_ble_eq_true h1; simp [binI]; omega
    · have := ble_false h1; simp [binI]; omega
  case leq =>
    rcases boolK_inv h with ⟨h1, h⟩ | ⟨h1, h⟩ <;> refine ⟨_, ?_, h⟩
    · have := Nat.le_of_ble_eq_true h1; simp [binI]; omega
    · have := ble_false h1; simp [binI]; omega
  case gtr =>
    rcases boolK_inv h with ⟨h1, h⟩ | ⟨h1, h⟩ <;> refine ⟨_, ?_, h⟩
    · have := Nat.le_of_ble_eq_true h1; simp [binI]; omega
    · have := ble_false h1; simp [binI]; omega
  case geq =>
    rcases boolK_inv h with ⟨h1, h⟩ | ⟨h1, h⟩ <;> refine ⟨_, ?_, h⟩
    · have := Nat.le_of_ble_eq_true h1; simp [binI]; omega
    · have := ble_false h1; simp [binI]; omega
  all_goals exact genI_inv h

/-- Two whole numbers of one kind. -/
noncomputable def intsK (v u : V) (f : IntKind → Int → Int → Ans) : Ans := v.onInt fun k m => u.onInt fun k' n => must (Nat.beq (numK k) (numK k')) (f k m n)
theorem intsK_inv {v u : V} {f : IntKind → Int → Int → Ans} (h : intsK v u f = .ok) : ∃ k m n, v = .int k m ∧ u = .int k n ∧ f k m n = .ok := by
  obtain ⟨k, m, h1, h⟩ := V.onInt_inv h
  obtain ⟨k', n, h2, h⟩ := V.onInt_inv h
  obtain ⟨h3, h9⟩ := must_inv h
  have := numK_inj h3
  subst this
  exact ⟨k, m, n, h1, h2, h9⟩

noncomputable def natZ (m n : Int) (f : Nat → Nat → Ans) (g : Ans) : Ans := Int.rec (motive := fun _ => AnsT) (fun a => Int.rec (motive := fun _ => AnsT) (fun b => f a b) (fun _ => g) n) (fun _ => g) m
theorem natZ_inv {m n : Int} {f : Nat → Nat → Ans} {g : Ans} (h : natZ m n f g = .ok) : (∃ a b, m = .ofNat a ∧ n = .ofNat b ∧ f a b = .ok) ∨ g = .ok := by
  cases m <;> cases n
  · exact .inl ⟨_, _, rfl, rfl, h⟩
  all_goals exact .inr h

noncomputable def qInt (op : BinOp) (x y : Operand) : QOp := q2 x y fun v u _ hs k => intsK v u fun kd m n => natZ m n (fun a b => (natI op).run kd a b fun r => k r hs) (genI op kd m n fun r => k r hs)
theorem qInt_spec {i : Nat} {o : Oper} {op : BinOp} {x y : Operand} {t u : TypeId} (ho : o.op = .binOp op t x y u) : QSpec ρ P i o (qInt op x y) :=
  q2_spec fun fr tm hp nx hs k vx vy hx hy h => by
    obtain ⟨kd, m, n, rfl, rfl, h7⟩ := intsK_inv h
    rcases natZ_inv h7 with ⟨a, b, rfl, rfl, h9⟩ | h9
    · obtain ⟨v, h1, h2⟩ := natI_inv h9
      exact ⟨v, h2, fun C => qq_binI ho hx hy h1⟩
    · obtain ⟨v, h1, h2⟩ := genI_inv h9
      exact ⟨v, h2, fun C => qq_binI ho hx hy h1⟩

/-- A quotient, or a rest, of numbers that may be below nought. -/
noncomputable def divK (kd : IntKind) (n r : Int) (k : V → Ans) : Ans := must (decide (n ≠ 0)) (forceZ r fun c => k (.int kd c))
theorem divK_inv {kd : IntKind} {n r : Int} {k : V → Ans} (h : divK kd n r k = .ok) : n ≠ 0 ∧ k (.int kd r) = .ok := by
  obtain ⟨h1, h⟩ := must_inv h
  rw [forceZ_eq] at h
  exact ⟨of_decide_eq_true h1, h⟩

noncomputable def qQuo (x y : Operand) : QOp := q2 x y fun v u _ hs k => intsK v u fun kd m n =>
  natZ m n (fun a b => must (Nat.ble 1 b) (forceN (Nat.div a b) fun c => boolK (Nat.ble c (maxK kd)) (k (.int kd (.ofNat c)) hs) (divK kd n (kd.wrap (m.tdiv n)) fun v => k v hs))) (divK kd n (kd.wrap (m.tdiv n)) fun v => k v hs)
theorem qQuo_spec {i : Nat} {o : Oper} {x y : Operand} {t u : TypeId} (ho : o.op = .binOp .quo t x y u) : QSpec ρ P i o (qQuo x y) :=
  q2_spec fun fr tm hp nx hs k vx vy hx hy h => by
    obtain ⟨kd, m, n, rfl, rfl, h7⟩ := intsK_inv h
    rcases natZ_inv h7 with ⟨a, b, rfl, rfl, h9⟩ | h9
    · obtain ⟨h1, h9⟩ := must_inv h9
      rw [forceN_eq] at h9
      rcases boolK_inv h9 with ⟨h2, h9⟩ | ⟨_, h9⟩
      · refine ⟨_, h9, fun C => ?_⟩
        have h3 := qq_quo (ρ := ρ) (P := P) (C := C) ho hx hy (fun e => by have := Nat.le_of_ble_eq_true h1; have e : (b : Int) = 0 := e; omega)
        have e : (Int.ofNat a).tdiv (Int.ofNat b) = Int.ofNat (Nat.div a b) := rfl
        rw [e, wrap_small (Nat.le_of_ble_eq_true h2)] at h3
        exact h3
      · obtain ⟨h2, h9⟩ := divK_inv h9
        exact ⟨_, h9, fun C => qq_quo ho hx hy h2⟩
    · obtain ⟨h2, h9⟩ := divK_inv h9
      exact ⟨_, h9, fun C => qq_quo ho hx hy h2⟩

noncomputable def qRem (x y : Operand) : QOp := q2 x y fun v u _ hs k => intsK v u fun kd m n => natZ m n (fun a b => must (Nat.ble 1 b) (forceN (Nat.mod a b) fun c => k (.int kd (.ofNat c)) hs)) (divK kd n (m.tmod n) fun v => k v hs)
theorem qRem_spec {i : Nat} {o : Oper} {x y : Operand} {t u : TypeId} (ho : o.op = .binOp .rem t x y u) : QSpec ρ P i o (qRem x y) :=
  q2_spec fun fr tm hp nx hs k vx vy hx hy h => by
    obtain ⟨kd, m, n, rfl, rfl, h7⟩ := intsK_inv h
    rcases natZ_inv h7 with ⟨a, b, rfl, rfl, h9⟩ | h9
    · obtain ⟨h1, h9⟩ := must_inv h9
      rw [forceN_eq] at h9
      exact ⟨_, h9, fun C => qq_rem ho hx hy (fun e => by have := Nat.le_of_ble_eq_true h1; have e : (b : Int) = 0 := e; omega)⟩
    · obtain ⟨h2, h9⟩ := divK_inv h9
      exact ⟨_, h9, fun C => qq_rem ho hx hy h2⟩

/-! ### Texts -/

noncomputable def psK (v u : V) (f : Nat → Nat → Nat → Nat → Ans) : Ans := v.onPs fun l a => u.onPs fun m b => f l a m b
theorem psK_inv {v u : V} {f : Nat → Nat → Nat → Nat → Ans} (h : psK v u f = .ok) : ∃ l a m b, v = .ps l a ∧ u = .ps m b ∧ f l a m b = .ok := by
  obtain ⟨l, a, h1, h⟩ := V.onPs_inv h
  obtain ⟨m, b, h2, h⟩ := V.onPs_inv h
  exact ⟨l, a, m, b, h1, h2, h⟩

noncomputable def eqS (l a m b : Nat) (y n : Ans) : Ans := boolK (Nat.beq l m) (boolK (Nat.beq a b) y n) n
theorem eqS_inv {l a m b : Nat} {f : Bool → Ans} (h : eqS l a m b (f true) (f false) = .ok) : f (Nat.beq l m && Nat.beq a b) = .ok := by
  unfold eqS at h
  rcases boolK_inv h with ⟨h1, h⟩ | ⟨h1, h⟩
  · rcases boolK_inv h with ⟨h2, h⟩ | ⟨h2, h⟩
    · rw [h1, h2]; exact h
    · rw [h1, h2]; exact h
  · rw [h1]; exact h

noncomputable def qStr (op : BinOp) (x y : Operand) : QOp := match op with
  | .eql => q2 x y fun v u _ hs k => psK v u fun l a m b => eqS l a m b (k (.bool true) hs) (k (.bool false) hs)
  | .neq => q2 x y fun v u _ hs k => psK v u fun l a m b => eqS l a m b (k (.bool false) hs) (k (.bool true) hs)
  | .add => q2 x y fun v u _ hs k => psK v u fun l a m b => forceN (Nat.add l m) fun n => must (Nat.ble n 9223372036854775807) (forceN (Nat.add a (Nat.mul b (Nat.pow 256 l))) fun c => k (.ps n c) hs)
  | _ => qbad 112
theorem qStr_spec {i : Nat} {o : Oper} {op : BinOp} {x y : Operand} {t u : TypeId} (ho : o.op = .binOp op t x y u) : QSpec ρ P i o (qStr op x y) := by
  cases op
  case eql =>
    exact q2_spec fun fr tm hp nx hs k vx vy hx hy h => by
      obtain ⟨l, a, m, b, rfl, rfl, h7⟩ := psK_inv h
      exact ⟨_, eqS_inv (f := fun b => k (.bool b) hs) h7, fun C => qq_eqlS ho hx hy⟩
  case neq =>
    exact q2_spec fun fr tm hp nx hs k vx vy hx hy h => by
      obtain ⟨l, a, m, b, rfl, rfl, h7⟩ := psK_inv h
      exact ⟨_, eqS_inv (f := fun b => k (.bool (!b)) hs) h7, fun C => qq_neqS ho hx hy⟩
  case add =>
    exact q2_spec fun fr tm hp nx hs k vx vy hx hy h => by
      obtain ⟨l, a, m, b, rfl, rfl, h7⟩ := psK_inv h
      rw [forceN_eq] at h7
      obtain ⟨h1, h7⟩ := must_inv h7
      rw [forceN_eq] at h7
      exact ⟨_, h7, fun C => qq_cat ho hx hy (Nat.le_of_ble_eq_true h1)⟩
  all_goals exact qspec_bad

/-! ### Other tests -/

noncomputable def boolsK (v u : V) (f : Bool → Bool → Ans) : Ans := v.onBool fun a => u.onBool fun b => f a b
theorem boolsK_inv {v u : V} {f : Bool → Bool → Ans} (h : boolsK v u f = .ok) : ∃ a b, v = .bool a ∧ u = .bool b ∧ f a b = .ok := by
  obtain ⟨a, h1, h⟩ := V.onBool_inv h
  obtain ⟨b, h2, h⟩ := V.onBool_inv h
  exact ⟨a, b, h1, h2, h⟩

noncomputable def qBool (op : BinOp) (x y : Operand) : QOp := match op with
  | .eql => q2 x y fun v u _ hs k => boolsK v u fun a b => forceB (a == b) fun c => k (.bool c) hs
  | .neq => q2 x y fun v u _ hs k => boolsK v u fun a b => forceB (!(a == b)) fun c => k (.bool c) hs
  | _ => qbad 113
theorem qBool_spec {i : Nat} {o : Oper} {op : BinOp} {x y : Operand} {t u : TypeId} {ti : TI} (ho : o.op = .binOp op t x y u) (ht : TyOK P t ti) (hs : ti.sh = .bool) : QSpec ρ P i o (qBool op x y) := by
  cases op
  case eql =>
    exact q2_spec fun fr tm hp nx hs' k vx vy hx hy h => by
      obtain ⟨a, b, rfl, rfl, h7⟩ := boolsK_inv h
      rw [forceB_eq] at h7
      exact ⟨_, h7, fun C => qq_eqlB ho hx hy ht hs⟩
  case neq =>
    exact q2_spec fun fr tm hp nx hs' k vx vy hx hy h => by
      obtain ⟨a, b, rfl, rfl, h7⟩ := boolsK_inv h
      rw [forceB_eq] at h7
      exact ⟨_, h7, fun C => qq_neqB ho hx hy ht hs⟩
  all_goals exact qspec_bad

noncomputable def nilSK (v u : V) (f : Bool → Ans) : Ans := u.onSc fun w => must (isNilSl w) (v.onNilS (fun _ _ _ _ => f false) (fun _ rows => List.rec (motive := fun _ => AnsT) (.err 61) (fun _ _ _ => f false) rows) (fun w => must (isNilSl w) (f true)))
theorem nilSK_inv {v u : V} {f : Bool → Ans} (h : nilSK v u f = .ok) : u = .sc (.slice none 0 0) ∧ ∃ p, v.nilS = some p ∧ f p = .ok := by
  obtain ⟨w, h1, h⟩ := V.onSc_inv h
  obtain ⟨h2, h⟩ := must_inv h
  have := isNilSl_ok h2
  subst this
  refine ⟨h1, ?_⟩
  rcases V.onNilS_inv h with ⟨_, _, _, _, rfl, h9⟩ | ⟨s, rows, rfl, h9⟩ | ⟨w, rfl, h9⟩
  · exact ⟨false, rfl, h9⟩
  · cases rows with
    | nil => exact Ans.no h9
    | cons r rows => exact ⟨false, rfl, h9⟩
  · obtain ⟨h3, h9⟩ := must_inv h9
    have := isNilSl_ok h3
    subst this
    exact ⟨true, rfl, h9⟩

noncomputable def qNilS (op : BinOp) (x y : Operand) : QOp := match op with
  | .eql => q2 x y fun v u _ hs k => nilSK v u fun p => k (.bool p) hs
  | .neq => q2 x y fun v u _ hs k => nilSK v u fun p => k (.bool (!p)) hs
  | _ => qbad 114
theorem qNilS_spec {i : Nat} {o : Oper} {op : BinOp} {x y : Operand} {t u : TypeId} {ti : TI} {e es eb : Nat} (ho : o.op = .binOp op t x y u) (ht : TyOK P t ti) (hs : ti.sh = .slice e es eb) : QSpec ρ P i o (qNilS op x y) := by
  cases op
  case eql =>
    exact q2_spec fun fr tm hp nx hs' k vx vy hx hy h => by
      obtain ⟨rfl, p, h1, h7⟩ := nilSK_inv h
      exact ⟨_, h7, fun C => qq_eqlNil ho hx h1 hy ht hs⟩
  case neq =>
    exact q2_spec fun fr tm hp nx hs' k vx vy hx hy h => by
      obtain ⟨rfl, p, h1, h7⟩ := nilSK_inv h
      exact ⟨_, h7, fun C => qq_neqNil ho hx h1 hy ht hs⟩
  all_goals exact qspec_bad

noncomputable def aggsK (fs : List (Nat × Nat)) (v u : V) (f : Bool → Ans) : Ans := v.onAgg fun l => u.onAgg fun m => optK (eqL fs l m) fun b => forceB b f
theorem aggsK_inv {fs : List (Nat × Nat)} {v u : V} {f : Bool → Ans} (h : aggsK fs v u f = .ok) : ∃ l m p, v = .agg l ∧ u = .agg m ∧ eqL fs l m = some p ∧ f p = .ok := by
  obtain ⟨l, h1, h⟩ := V.onAgg_inv h
  obtain ⟨m, h2, h⟩ := V.onAgg_inv h
  obtain ⟨p, h3, h⟩ := optK_inv h
  rw [forceB_eq] at h
  exact ⟨l, m, p, h1, h2, h3, h⟩

noncomputable def qAgg (P : Program) (op : BinOp) (t : TypeId) (x y : Operand) : QOp := match eqTy P t with
  | some fs => match op with
    | .eql => q2 x y fun v u _ hs k => aggsK fs v u fun p => k (.bool p) hs
    | .neq => q2 x y fun v u _ hs k => aggsK fs v u fun p => k (.bool (!p)) hs
    | _ => qbad 115
  | none => qbad 116
theorem qAgg_spec {i : Nat} {o : Oper} {op : BinOp} {x y : Operand} {t u : TypeId} (ho : o.op = .binOp op t x y u) : QSpec ρ P i o (qAgg P op t x y) := by
  unfold qAgg
  split
  · rename_i fs ht
    cases op
    case eql =>
      exact q2_spec fun fr tm hp nx hs' k vx vy hx hy h => by
        obtain ⟨l, m, p, rfl, rfl, h1, h7⟩ := aggsK_inv h
        exact ⟨_, h7, fun C => qq_eqlA ho hx hy ht h1⟩
    case neq =>
      exact q2_spec fun fr tm hp nx hs' k vx vy hx hy h => by
        obtain ⟨l, m, p, rfl, rfl, h1, h7⟩ := aggsK_inv h
        exact ⟨_, h7, fun C => qq_neqA ho hx hy ht h1⟩
    all_goals exact qspec_bad
  · exact qspec_bad

def isNilIf : Value → Bool
  | .nilIface => true
  | _ => false
theorem isNilIf_ok {v : Value} (h : isNilIf v = true) : v = .nilIface := by
  unfold isNilIf at h
  split at h
  · rfl
  · cases h
noncomputable def nilIK (v : V) (f : Bool → Ans) : Ans := v.onNilI (fun _ _ => f false) (fun w => must (isNilIf w) (f true))
theorem nilIK_inv {v : V} {f : Bool → Ans} (h : nilIK v f = .ok) : ∃ p, v.nilI = some p ∧ f p = .ok := by
  rcases V.onNilI_inv h with ⟨_, _, rfl, h9⟩ | ⟨w, rfl, h9⟩
  · exact ⟨false, rfl, h9⟩
  · obtain ⟨h3, h9⟩ := must_inv h9
    have := isNilIf_ok h3
    subst this
    exact ⟨true, rfl, h9⟩

noncomputable def qIf (P : Program) (op : BinOp) (t : TypeId) (x y : Operand) : QOp := match isIface P t, y with
  | some true, .const .nilIface => match op with
    | .eql => q1 x fun v _ hs k => nilIK v fun p => k (.bool p) hs
    | .neq => q1 x fun v _ hs k => nilIK v fun p => k (.bool (!p)) hs
    | _ => qbad 117
  | _, _ => qbad 118
theorem qIf_spec {i : Nat} {o : Oper} {op : BinOp} {x y : Operand} {t u : TypeId} (ho : o.op = .binOp op t x y u) : QSpec ρ P i o (qIf P op t x y) := by
  unfold qIf
  split
  · rename_i hi
    cases op
    case eql =>
      exact q1_spec fun fr tm hp nx hs' k vx hx h => by
        obtain ⟨p, h1, h⟩ := nilIK_inv h
        exact ⟨_, h, fun C => qq_eqlI ho hx h1 hi⟩
    case neq =>
      exact q1_spec fun fr tm hp nx hs' k vx hx h => by
        obtain ⟨p, h1, h⟩ := nilIK_inv h
        exact ⟨_, h, fun C => qq_neqI ho hx h1 hi⟩
    all_goals exact qspec_bad
  · exact qspec_bad

noncomputable def qBin (P : Program) (op : BinOp) (t : TypeId) (x y : Operand) : QOp := match op with
  | .quo => qQuo x y
  | .rem => qRem x y
  | op => match shOf P t with
    | some (.int _) => qInt op x y
    | some .string => qStr op x y
    | some .bool => match tiOf P t with
      | some ⟨_, .bool, _⟩ => qBool op x y
      | _ => qbad 119
    | some (.slice _ _ _) => match tiOf P t with
      | some ⟨_, .slice _ _ _, _⟩ => qNilS op x y
      | _ => qbad 119
    | some (.struct _) => qAgg P op t x y
    | some .other => qIf P op t x y
    | none => qbad 120
theorem qBin_spec {i : Nat} {o : Oper} {op : BinOp} {x y : Operand} {t u : TypeId} (ho : o.op = .binOp op t x y u) : QSpec ρ P i o (qBin P op t x y) := by
  unfold qBin
  split
  · exact qQuo_spec ho
  · exact qRem_spec ho
  · split
    · exact qInt_spec ho
    · exact qStr_spec ho
    · split
      · rename_i hti
        exact qBool_spec ho (tiOf_ok hti) rfl
      · exact qspec_bad
    · split
      · rename_i hti
        exact qNilS_spec ho (tiOf_ok hti) rfl
      · exact qspec_bad
    · exact qAgg_spec ho
    · exact qIf_spec ho
    · exact qspec_bad

end Go.Proofs.YtjljgldgkkfckaaDoor.M
