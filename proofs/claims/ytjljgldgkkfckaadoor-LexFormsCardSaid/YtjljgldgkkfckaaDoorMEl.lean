/- Operations that make, write, call, as the kernel runs them. -/
import Derived.Test.YtjljgldgkkfckaaDoorMEc
namespace Go.Proofs.YtjljgldgkkfckaaDoor.M
open Go Go.RowKit
set_option linter.unusedSimpArgs false
set_option linter.unusedVariables false

variable {ρ : Nat → Value} {P : Program}

/-- A call: function, arguments, objects that may not be written, objects, next number; what comes behind it. -/
@[reducible] def CallT : Type := FuncId → List V → List PC → Hp → Nat → (V → Hp → Nat → Ans) → (V → Hp → Nat → Ans) → Ans

structure Env where
  call : CallT
  forb : List PC
  kx : Nat → K3
  kr : K3
  kp : V → K3
  lm : Bool

def KE (fr : Fr) (E : Env) (kn : K3) : Ex → St → Prop
  | .normal, σ => NK fr kn σ
  | .exit id, σ => NK fr (E.kx id) σ
  | .ret, σ => NK fr E.kr σ
  | .panic v, σ => NK fr (E.kp v) σ

def RK (kr kp : V → Hp → Nat → Ans) : Out → Objs → Nat → Prop
  | .ret v, O, n => ∃ hp, O = absO hp ∧ kr v hp n = .ok
  | .panic v, O, n => ∃ hp, O = absO hp ∧ kp v hp n = .ok

def CallOK (ρ : Nat → Value) (P : Program) (c : CallT) : Prop :=
  ∀ f args forb hp nx kr kp, c f args forb hp nx kr kp = .ok → QCalls ρ P f args (absO hp) nx (inL forb) (RK kr kp)

structure LOp where
  run : Env → List PC → Tm → Hp → Nat → K3 → Ans

def lbad (n : Nat) : LOp := ⟨fun _ _ _ _ _ _ => .err n⟩

def LSpec (ρ : Nat → Value) (P : Program) (o : Oper) (l : LOp) : Prop :=
  ∀ (fr : Fr) (E : Env) (cs : List PC) (tm : Tm) (hp : Hp) (nx : Nat) (k kn : K3), E.forb = fr.forb → CallOK ρ P E.call → (∀ t, o.dst = some t → t < fr.n) → l.run E cs tm hp nx k = .ok →
    QO ρ P (inL cs) o (absS fr tm hp nx) (NK fr k) (KE fr E kn)

theorem lspec_bad {n : Nat} {o : Oper} : LSpec ρ P o (lbad n) := fun _ _ _ _ _ _ _ _ _ _ _ h => Ans.no h

/-- The slot that is written. -/
structure Upd where
  run : Tm → V → (Tm → Ans) → Ans
noncomputable def updD (d : Option Tmp) : Upd := match d with
  | none => ⟨fun tm _ k => k tm⟩
  | some t => Bool.rec ⟨fun _ _ _ => .err 70⟩ ⟨fun tm v k => (acc2 V t).upd tm v k⟩ (Nat.ble (Nat.succ t) 255)
theorem updD_inv {d : Option Tmp} {tm : Tm} {v : V} {k : Tm → Ans} (h : (updD d).run tm v k = .ok) : ∃ tm', k tm' = .ok ∧ ∀ (fr : Fr) (hp : Hp) (nx : Nat), (absS fr tm hp nx).put d v = absS fr tm' hp nx := by
  cases d with
  | none => exact ⟨tm, h, fun _ _ _ => rfl⟩
  | some t =>
    have h : (Bool.rec (motive := fun _ => Upd) ⟨fun _ _ _ => .err 70⟩ ⟨fun tm v k => (acc2 V t).upd tm v k⟩ (Nat.ble (Nat.succ t) 255)).run tm v k = .ok := h
    cases e : Nat.ble (Nat.succ t) 255 with
    | false => rw [e] at h; exact Ans.no h
    | true =>
      rw [e] at h
      obtain ⟨_, h2⟩ := acc2_upd h
      have ht : t < 255 := Nat.le_of_ble_eq_true e
      exact ⟨_, h2, fun fr hp nx => abs_put ht⟩

/-! ### New objects -/

noncomputable def newK (d : Option Tmp) (ob : KOb) (v : V) (tm : Tm) (hp : Hp) (nx : Nat) (k : K3) : Ans :=
  (acc4 KOb nx).upd hp ob fun hp' => (updD d).run tm v fun tm' => forceN (Nat.succ nx) fun nx' => k tm' hp' nx'
theorem newK_inv {d : Option Tmp} {ob : KOb} {v : V} {tm : Tm} {hp : Hp} {nx : Nat} {k : K3} (h : newK d ob v tm hp nx k = .ok) (fr : Fr) :
    NK fr k (({ absS fr tm hp nx with objs := Objs.put (absO hp) nx (absK ob), next := nx + 1 } : St).put d v) := by
  obtain ⟨h1, h⟩ := acc4_upd h
  obtain ⟨tm', h, h2⟩ := updD_inv h
  rw [forceN_eq] at h
  refine ⟨tm', put4 hp nx ob, nx + 1, ?_, h⟩
  rw [← h2, ← absO_put h1]
  rfl

noncomputable def lAlloc (P : Program) (d : Option Tmp) (t : TypeId) : LOp := match tiOf P t with
  | some ti => match (ti.zero.map cv).all V.one with
    | true => ⟨fun _ _ tm hp nx k => newK d (.cell (ti.zero.map cv)) (.ptr nx 0 0) tm hp nx k⟩
    | false => lbad 131
  | none => lbad 132
theorem lAlloc_spec {o : Oper} {t : TypeId} (ho : o.op = .alloc t) : LSpec ρ P o (lAlloc P o.dst t) := by
  unfold lAlloc
  split
  · rename_i ti hti
    split
    · rename_i hone
      intro fr E cs tm hp nx k kn hf hc hd h
      exact qo_alloc ho (tiOf_ok hti) rfl hone hd (newK_inv h fr)
    · exact lspec_bad
  · exact lspec_bad

noncomputable def lBox (d : Option Tmp) (x : Operand) : LOp := ⟨fun _ _ tm hp nx k => (opd x).get tm fun v => v.onCells fun l => allOne l (newK d (.cell l) (.ptr nx 0 0) tm hp nx k)⟩
theorem lBox_spec {o : Oper} {t : TypeId} {x : Operand} (ho : o.op = .box t x) : LSpec ρ P o (lBox o.dst x) := by
  intro fr E cs tm hp nx k kn hf hc hd h
  have h := opd_inv (k := fun v => v.onCells fun l => allOne l (newK o.dst (.cell l) (.ptr nx 0 0) tm hp nx k)) h fr hp nx
  rw [V.onCells_eq] at h
  obtain ⟨h1, h⟩ := allOne_inv h
  exact qo_box ho rfl h1 hd (newK_inv h fr)

/-! ### Rows -/

/-- Rows into sixteen, from the i-th on. -/
noncomputable def rows1 (l : List (List V)) : Nat → N16 (List V) → (N16 (List V) → Ans) → Ans :=
  List.rec (motive := fun _ => Nat → N16 (List V) → (N16 (List V) → Ans) → Ans) (fun _ t k => k t) (fun row _ ih i t k => (acc (List V) i).upd t row fun t' => forceN (Nat.succ i) fun j => ih j t' k) l
theorem rows1_inv : ∀ {l : List (List V)} {i : Nat} {t : N16 (List V)} {k : N16 (List V) → Ans}, rows1 l i t k = .ok → ∃ t', k t' = .ok ∧ i + l.length ≤ max i 16 ∧ ∀ j, j < 16 → t'.get j = if i ≤ j ∧ j < i + l.length then (l[j - i]?).getD [] else t.get j
  | [], i, t, k, h => ⟨t, h, by simp only [List.length_nil]; omega, fun j hj => by rw [if_neg (by simp)]⟩
  | row :: l, i, t, k, h => by
    obtain ⟨h1, h⟩ := acc_upd h
    rw [forceN_eq] at h
    obtain ⟨t', h2, h3, h4⟩ := rows1_inv (l := l) h
    refine ⟨t', h2, by simp; omega, fun j hj => ?_⟩
    rw [h4 j hj, N16.get_put _ _ _ _ h1 hj]
    simp only [List.length_cons]
    by_cases e : j = i
    · subst e
      rw [if_neg (by omega), if_pos rfl, if_pos (by omega)]
      simp
    · rw [if_neg e]
      by_cases e2 : i + 1 ≤ j ∧ j < i + 1 + l.length
      · rw [if_pos e2, if_pos (by omega)]
        obtain ⟨m, hm⟩ : ∃ m, j - i = m + 1 := ⟨j - i - 1, by omega⟩
        rw [hm, show j - (i + 1) = m by omega]
        simp
      · rw [if_neg e2, if_neg (by omega)]

noncomputable def rows3 (l : List (List V)) : Nat → N16 (N16 (N16 (List V))) → (N16 (N16 (N16 (List V))) → Ans) → Ans :=
  List.rec (motive := fun _ => Nat → N16 (N16 (N16 (List V))) → (N16 (N16 (N16 (List V))) → Ans) → Ans) (fun _ t k => k t) (fun row _ ih i t k => (acc3 (List V) i).upd t row fun t' => forceN (Nat.succ i) fun j => ih j t' k) l
theorem rows3_inv : ∀ {l : List (List V)} {i : Nat} {t : N16 (N16 (N16 (List V)))} {k : N16 (N16 (N16 (List V))) → Ans}, rows3 l i t k = .ok → ∃ t', k t' = .ok ∧ i + l.length ≤ max i 4096 ∧ ∀ j, j < 4096 → get3 t' j = if i ≤ j ∧ j < i + l.length then (l[j - i]?).getD [] else get3 t j
  | [], i, t, k, h => ⟨t, h, by simp only [List.length_nil]; omega, fun j hj => by rw [if_neg (by simp)]⟩
  | row :: l, i, t, k, h => by
    obtain ⟨h1, h⟩ := acc3_upd h
    rw [forceN_eq] at h
    obtain ⟨t', h2, h3, h4⟩ := rows3_inv (l := l) h
    refine ⟨t', h2, by simp; omega, fun j hj => ?_⟩
    rw [h4 j hj, get_put3 _ _ _ _ h1 hj]
    simp only [List.length_cons]
    by_cases e : j = i
    · subst e
      rw [if_neg (by omega), if_pos rfl, if_pos (by omega)]
      simp
    · rw [if_neg e]
      by_cases e2 : i + 1 ≤ j ∧ j < i + 1 + l.length
      · rw [if_pos e2, if_pos (by omega)]
        obtain ⟨m, hm⟩ : ∃ m, j - i = m + 1 := ⟨j - i - 1, by omega⟩
        rw [hm, show j - (i + 1) = m by omega]
        simp
      · rw [if_neg e2, if_neg (by omega)]

def none1 : N16 (List V) := N16.all []
def none3 : N16 (N16 (N16 (List V))) := N16.all (N16.all none1)
def wide (t : N16 (List V)) : N16 (N16 (N16 (List V))) := (N16.all (N16.all none1)).put 0 ((N16.all none1).put 0 t)
theorem wide_get (t : N16 (List V)) (j : Nat) (hj : j < 16) : get3 (wide t) j = t.get j := by
  unfold get3 get2 wide
  have e1 : j / 256 = 0 := by omega
  have e2 : j % 256 / 16 = 0 := by omega
  have e3 : j % 256 % 16 = j := by omega
  rw [e1, e2, e3]
  rfl

/-- The rows of l lie behind the first len rows of an object. -/
noncomputable def joinK (ob : KOb) (es len : Nat) (l : List (List V)) (m : Nat) (k : KOb → Ans) : Ans :=
  forceN (Nat.add len m) fun n => KOb.rec (motive := fun _ => AnsT) (.err 71) (fun _ => .err 72)
    (fun _ n0 t => must (Nat.ble len n0) (boolK (Nat.ble n 16) (rows1 l len t fun t' => k (.a1 es n t')) (rows3 l len (wide t) fun t' => must (Nat.ble n 4096) (must (Nat.ble len 16) (k (.a3 es n t'))))))
    (fun _ n0 t => must (Nat.ble len n0) (rows3 l len t fun t' => must (Nat.ble n 4096) (k (.a3 es n t'))))
    (fun _ rows => must (Nat.ble len rows.length) (k (.ls es (rows.take len ++ l)))) ob

theorem joinK_inv {ob : KOb} {es len m : Nat} {l : List (List V)} {k : KOb → Ans} (hm : l.length = m) (h : joinK ob es len l m k = .ok) : ∃ x ob', absK ob = some x ∧ k ob' = .ok ∧ absK ob' = some ⟨es, appRow len x.row (fun r => l[r]?) m⟩ := by
  unfold joinK at h
  rw [forceN_eq] at h
  have fin : ∀ {N n0 : Nat} {g g' : Nat → List V}, len ≤ n0 → len + m ≤ N → (∀ j, j < N → g' j = if len ≤ j ∧ j < len + l.length then (l[j - len]?).getD [] else if j < len then g j else g' j) → ∀ r,
      (if r < len + m then (if r < N then some (g' r) else none) else none) = appRow len (fun r => if r < n0 then (if r < N then some (g r) else none) else none) (fun r => l[r]?) m r := by
    intro N n0 g g' h1 h2 h3 r
    unfold appRow
    by_cases e : r < len
    · rw [if_pos e, if_pos (by omega), if_pos (by omega)]
      show some (g' r) = if r < n0 then (if r < N then some (g r) else none) else none
      rw [if_pos (by omega), if_pos (by omega)]
      have := h3 r (by omega)
      rw [if_neg (by omega), if_pos e] at this
      rw [this]
    · rw [if_neg e]
      by_cases e2 : r < len + m
      · rw [if_pos e2, if_pos e2, if_pos (by omega)]
        have := h3 r (by omega)
        rw [if_pos (by omega)] at this
        show some (g' r) = l[r - len]?
        rw [this, List.getElem?_eq_getElem (by omega)]
        rfl
      · rw [if_neg e2, if_neg e2]
  cases ob with
  | no => exact Ans.no h
  | cell row => exact Ans.no h
  | a1 s n0 t =>
    obtain ⟨h1, h⟩ := must_inv h
    have h1 := Nat.le_of_ble_eq_true h1
    rcases boolK_inv h with ⟨h2, h⟩ | ⟨h2, h⟩
    · obtain ⟨t', h3, h4, h5⟩ := rows1_inv h
      refine ⟨_, _, rfl, h3, congrArg some ?_⟩
      have h2 := Nat.le_of_ble_eq_true h2
      have h2 : len + m ≤ 16 := h2
      congr 1
      funext r
      refine fin (n0 := n0) (g := fun r => t.get r) h1 h2 (fun j hj => ?_) r
      rw [h5 j hj]
      by_cases e : len ≤ j ∧ j < len + l.length
      · rw [if_pos e, if_pos e]
      · rw [if_neg e, if_neg e]
        split <;> rfl
    · obtain ⟨t', h3, h4, h5⟩ := rows3_inv h
      obtain ⟨h6, h⟩ := must_inv h3
      obtain ⟨h7, h⟩ := must_inv h
      have h6 : len + m ≤ 4096 := Nat.le_of_ble_eq_true h6
      have h7 := Nat.le_of_ble_eq_true h7
      refine ⟨_, _, rfl, h, congrArg some ?_⟩
      have e0 : (⟨es, appRow len (fun r => if r < n0 then (if r < 16 then some (t.get r) else none) else none) (fun r => l[r]?) m⟩ : Ob) = ⟨es, appRow len (fun r => if r < n0 then (if r < 4096 then some (get3 (wide t) r) else none) else none) (fun r => l[r]?) m⟩ := by
        congr 1
        funext r
        unfold appRow
        by_cases e : r < len
        · rw [if_pos e, if_pos e]
          show (if r < n0 then (if r < 16 then some (t.get r) else none) else none) = if r < n0 then (if r < 4096 then some (get3 (wide t) r) else none) else none
          rw [if_pos (by omega), if_pos (by omega), if_pos (by omega), if_pos (by omega), wide_get t r (by omega)]
        · rw [if_neg e, if_neg e]
      show _ = (⟨es, appRow len (fun r => if r < n0 then (if r < 16 then some (t.get r) else none) else none) (fun r => l[r]?) m⟩ : Ob)
      rw [e0]
      congr 1
      funext r
      refine fin (n0 := n0) (g := fun r => get3 (wide t) r) h1 h6 (fun j hj => ?_) r
      rw [h5 j hj]
      by_cases e : len ≤ j ∧ j < len + l.length
      · rw [if_pos e, if_pos e]
      · rw [if_neg e, if_neg e]
        split <;> rfl
  | a3 s n0 t =>
    obtain ⟨h1, h⟩ := must_inv h
    have h1 := Nat.le_of_ble_eq_true h1
    obtain ⟨t', h3, h4, h5⟩ := rows3_inv h
    obtain ⟨h6, h⟩ := must_inv h3
    have h6 : len + m ≤ 4096 := Nat.le_of_ble_eq_true h6
    refine ⟨_, _, rfl, h, congrArg some ?_⟩
    congr 1
    funext r
    refine fin (n0 := n0) (g := fun r => get3 t r) h1 h6 (fun j hj => ?_) r
    rw [h5 j hj]
    by_cases e : len ≤ j ∧ j < len + l.length
    · rw [if_pos e, if_pos e]
    · rw [if_neg e, if_neg e]
      split <;> rfl
  | ls s rows =>
    obtain ⟨h1, h⟩ := must_inv h
    have h1 := Nat.le_of_ble_eq_true h1
    refine ⟨_, _, rfl, h, congrArg some ?_⟩
    show (⟨es, fun r => (rows.take len ++ l)[r]?⟩ : Ob) = ⟨es, appRow len (fun r => rows[r]?) (fun r => l[r]?) m⟩
    congr 1
    funext r
    unfold appRow
    rw [List.getElem?_append]
    have hlen : (rows.take len).length = len := by rw [List.length_take]; omega
    rw [hlen]
    by_cases e : r < len
    · rw [if_pos e, if_pos e, List.getElem?_take, if_pos e]
    · rw [if_neg e, if_neg e]
      by_cases e2 : r < len + m
      · rw [if_pos e2]
      · rw [if_neg e2, List.getElem?_eq_none (by omega)]

/-- A new object out of rows. -/
noncomputable def ofRows (es : Nat) (l : List (List V)) (n : Nat) (k : KOb → Ans) : Ans := joinK (.a1 es Nat.zero none1) es Nat.zero l n k
theorem ofRows_inv {es n : Nat} {l : List (List V)} {k : KOb → Ans} (hn : l.length = n) (h : ofRows es l n k = .ok) : ∃ ob, k ob = .ok ∧ absK ob = some (rowsOb es l) := by
  obtain ⟨x, ob, h1, h2, h3⟩ := joinK_inv hn h
  refine ⟨ob, h2, ?_⟩
  rw [h3]
  unfold rowsOb
  congr 2
  funext r
  unfold appRow
  rw [if_neg (by show ¬ r < 0; omega)]
  show (if r < 0 + n then l[r - 0]? else none) = l[r]?
  split
  · rfl
  · rw [List.getElem?_eq_none (by omega)]

/-- Rows as the parts say. -/
structure Prt where
  run : Tm → (List (List V) → Ans) → Ans
noncomputable def prt (es : Nat) (parts : List (Nat × Operand)) : Nat → Prt :=
  List.rec (motive := fun _ => Nat → Prt) (fun _ => ⟨fun _ k => k []⟩) (fun p _ ih n => match Nat.beq p.1 n with
    | true => ⟨fun tm k => (opd p.2).get tm fun v => v.onCells fun c => lenIs es c (allOne c ((ih (Nat.succ n)).run tm fun l => k (c :: l)))⟩
    | false => ⟨fun _ _ => .err 73⟩) parts
theorem prt_inv {es : Nat} : ∀ {parts : List (Nat × Operand)} {n : Nat} {tm : Tm} {k : List (List V) → Ans} (h : (prt es parts n).run tm k = .ok) (fr : Fr) (hp : Hp) (nx : Nat),
    ∃ rows, rowsP es n (evalParts (absS fr tm hp nx) parts) = some rows ∧ rows.length = parts.length ∧ k rows = .ok
  | [], n, tm, k, h, fr, hp, nx => ⟨[], rfl, rfl, h⟩
  | (i, x) :: parts, n, tm, k, h, fr, hp, nx => by
    have h : (match Nat.beq i n with
      | true => (⟨fun tm k => (opd x).get tm fun v => v.onCells fun c => lenIs es c (allOne c ((prt es parts (Nat.succ n)).run tm fun l => k (c :: l)))⟩ : Prt)
      | false => ⟨fun _ _ => .err 73⟩).run tm k = .ok := h
    split at h
    · rename_i hi
      have h := opd_inv (k := fun v => v.onCells fun c => lenIs es c (allOne c ((prt es parts (Nat.succ n)).run tm fun l => k (c :: l)))) h fr hp nx
      rw [V.onCells_eq] at h
      obtain ⟨h1, h⟩ := lenIs_inv h
      obtain ⟨h2, h⟩ := allOne_inv h
      obtain ⟨rows, h3, h4, h⟩ := prt_inv h fr hp nx
      refine ⟨_, ?_, by simp [h4], h⟩
      unfold evalParts rowsP
      have g1 : Nat.beq (cellsV (evalV (absS fr tm hp nx) x)).length es = true := by rw [h1]; exact Nat.beq_refl _
      rw [hi, g1, h2]
      simp only
      rw [h3]
    · exact Ans.no h

noncomputable def lBuildSlice (P : Program) (d : Option Tmp) (t : TypeId) (n : Nat) (parts : List (Nat × Operand)) : LOp := match elOf P t with
  | some el => match Nat.beq parts.length n, Nat.ble (n * el.es) 16777216 with
    | true, true => ⟨fun _ _ tm hp nx k => (prt el.es parts 0).run tm fun rows => ofRows el.es rows n fun ob => newK d ob (.sl nx 0 n true) tm hp nx k⟩
    | _, _ => lbad 133
  | none => lbad 134
theorem lBuildSlice_spec {o : Oper} {t : TypeId} {n : Nat} {parts : Array (Nat × Operand)} (ho : o.op = .buildSlice t n parts) : LSpec ρ P o (lBuildSlice P o.dst t n parts.toList) := by
  unfold lBuildSlice
  split
  · rename_i el hel
    obtain ⟨h1, h2, _, _⟩ := elOf_ok hel
    split
    · rename_i hn hbig
      intro fr E cs tm hp nx k kn hf hc hd h
      obtain ⟨rows, h3, h4, h⟩ := prt_inv h fr hp nx
      have hn := Nat.eq_of_beq_eq_true hn
      obtain ⟨ob, h, h5⟩ := ofRows_inv (h4.trans hn) h
      have := newK_inv h fr
      rw [h5] at this
      exact qo_buildSlice ho h1 h2 (Nat.le_of_ble_eq_true hbig) (h4.trans hn) h3 hd this
    · exact lspec_bad
  · exact lspec_bad

/-- Sixteen, or many, rows of noughts. -/
noncomputable def zeroK (es n : Nat) (z : List V) (k : KOb → Ans) : Ans := boolK (Nat.ble n 16) (k (.a1 es n (N16.all z))) (must (Nat.ble n 4096) (k (.a3 es n (N16.all (N16.all (N16.all z))))))
theorem zeroK_inv {es n : Nat} {z : List V} {k : KOb → Ans} (h : zeroK es n z k = .ok) : ∃ ob, k ob = .ok ∧ absK ob = some (zeroOb es n z) := by
  rcases boolK_inv h with ⟨h1, h⟩ | ⟨_, h⟩
  · refine ⟨_, h, ?_⟩
    have h1 := Nat.le_of_ble_eq_true h1
    show some (⟨es, fun r => if r < n then (if r < 16 then some ((N16.all z).get r) else none) else none⟩ : Ob) = some ⟨es, fun r => if r < n then some z else none⟩
    congr 2
    funext r
    by_cases e : r < n
    · rw [if_pos e, if_pos e, if_pos (by omega), N16.get_all]
    · rw [if_neg e, if_neg e]
  · obtain ⟨h1, h⟩ := must_inv h
    refine ⟨_, h, ?_⟩
    have h1 := Nat.le_of_ble_eq_true h1
    show some (⟨es, fun r => if r < n then (if r < 4096 then some (get3 (N16.all (N16.all (N16.all z))) r) else none) else none⟩ : Ob) = some ⟨es, fun r => if r < n then some z else none⟩
    congr 2
    funext r
    by_cases e : r < n
    · rw [if_pos e, if_pos e, if_pos (by omega)]
      unfold get3 get2
      rw [N16.get_all, N16.get_all, N16.get_all]
    · rw [if_neg e, if_neg e]

noncomputable def lMake (P : Program) (d : Option Tmp) (t : TypeId) (x y : Operand) : LOp := match elOf P t with
  | some el => match el.z.all V.one with
    | true => ⟨fun _ _ tm hp nx k => (opd x).get tm fun v => (opd y).get tm fun u => v.onInt fun _ m => onNat m fun m => u.onInt fun _ n => onNat n fun n => must (Nat.beq m n) (must (Nat.ble n 9223372036854775807) (must (Nat.ble (Nat.mul el.eb n) 281474976710656)
        (zeroK el.es n el.z fun ob => newK d ob (.sl nx 0 n true) tm hp nx k)))⟩
    | false => lbad 135
  | none => lbad 136
theorem lMake_spec {o : Oper} {t : TypeId} {x y : Operand} (ho : o.op = .makeSlice t x y) : LSpec ρ P o (lMake P o.dst t x y) := by
  unfold lMake
  split
  · rename_i el hel
    obtain ⟨h1, h2, _, te, hte, hz⟩ := elOf_ok hel
    split
    · rename_i hone
      intro fr E cs tm hp nx k kn hf hc hd h
      have h := opd_inv (k := fun u => _) (opd_inv (k := fun v => (opd y).get tm fun u => v.onInt fun _ m => onNat m fun m => u.onInt fun _ n => onNat n fun n => must (Nat.beq m n) (must (Nat.ble n 9223372036854775807) (must (Nat.ble (Nat.mul el.eb n) 281474976710656)
        (zeroK el.es n el.z fun ob => newK o.dst ob (.sl nx 0 n true) tm hp nx k)))) h fr hp nx) fr hp nx
      obtain ⟨k1, m', hx, h⟩ := V.onInt_inv h
      obtain ⟨m, hm, h⟩ := onNat_inv h
      obtain ⟨k2, n', hy, h⟩ := V.onInt_inv h
      obtain ⟨n, hn, h⟩ := onNat_inv h
      obtain ⟨h3, h⟩ := must_inv h
      obtain ⟨h4, h⟩ := must_inv h
      obtain ⟨h5, h⟩ := must_inv h
      obtain ⟨ob, h9, h6⟩ := zeroK_inv h
      have h3 := Nat.eq_of_beq_eq_true h3
      subst hm hn h3
      have := newK_inv h9 fr
      rw [h6] at this
      exact qo_makeSlice ho hx hy h1 hte h2 (Nat.le_of_ble_eq_true h4) (Nat.le_of_ble_eq_true h5) hz hone hd this
    · exact lspec_bad
  · exact lspec_bad

end Go.Proofs.YtjljgldgkkfckaaDoor.M
