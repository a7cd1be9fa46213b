/- What functions answer, said once: of arguments without objects; of a receiver that is one row of cells. -/
import Derived.Test.YtjljgldgkkfckaaDoorMFrame
namespace Go.Proofs.YtjljgldgkkfckaaDoor.M
open Go Go.RowKit
set_option linter.unusedSimpArgs false
set_option linter.unusedVariables false

variable {ρ : Nat → Value} {P : Program}

open Classical in
noncomputable def okIf (p : Prop) : Ans := if p then .ok else .err 7
theorem okIf_ok {p : Prop} (h : p) : okIf p = .ok := if_pos h
theorem okIf_inv {p : Prop} (h : okIf p = .ok) : p := by
  unfold okIf at h
  split at h
  · assumption
  · cases h

/-- Whatever there is: this is answered, and nothing else is done. -/
def Says (ρ : Nat → Value) (P : Program) (f : FuncId) (args : List V) (v : V) : Prop :=
  ∀ (objs : Objs) (next : Nat) (forb : CellP), QCalls ρ P f args objs next forb (fun o O m => o = .ret v ∧ O = objs ∧ m = next)

/-- A truth value is handed on as what it is. -/
noncomputable def outK (v : V) (k : V → Ans) : Ans := match v with
  | .bool b => boolK b (k (.bool true)) (k (.bool false))
  | v => k v
theorem outK_inv {v : V} {k : V → Ans} (h : outK v k = .ok) : k v = .ok := by
  unfold outK at h
  split at h
  · rcases boolK_inv h with ⟨rfl, h⟩ | ⟨rfl, h⟩ <;> exact h
  · exact h

/-- An answer under a condition that is asked for. -/
noncomputable def ovF (F : List V → Option (Bool × V)) : OvT := fun args _ hp nx kr _ => match F args with
  | some (c, v) => must c (outK v fun v => kr v hp nx)
  | none => .err 1

theorem ov_says {f : FuncId} {F : List V → Option (Bool × V)} (h : ∀ args v, F args = some (true, v) → Says ρ P f args v) : OvOK ρ P f (ovF F) := by
  intro args forb hp nx kr kp hk
  unfold ovF at hk
  split at hk
  · rename_i c v hv
    obtain ⟨hc, hk2⟩ := must_inv hk
    subst hc
    refine (h args v hv (absO hp) nx (inL forb)).mono ?_
    rintro o O m ⟨e1, e2, e3⟩
    subst e1 e2 e3
    exact ⟨hp, rfl, outK_inv hk2⟩
  · exact Ans.no hk

theorem says_frame {f : FuncId} {args : List V} {v' : V} (hargs : ∀ q ∈ args, Arg2 [] q q) (h : QCalls ρ P f args (fun _ => none) 0 (fun _ _ _ => False) (fun o O m => ∃ v, o = .ret v ∧ Frz (fun _ => True) O v v')) : Says ρ P f args v' := by
  intro objs next forb
  have h2 : QCalls ρ P f args (fun i : Nat => ([] : List Ob)[i]?) ([] : List Ob).length (fun _ _ _ => False) (Inner ([] : List Ob).length fun o _ => o = .ret v') := by
    have e : (fun i : Nat => ([] : List Ob)[i]?) = fun _ => none := by funext i; simp
    rw [e]
    refine h.mono ?_
    rintro o O m ⟨v, rfl, hv⟩
    refine ⟨.ret v', [], .ret ?_, rfl, fun i ob' hi => by simp at hi, rfl⟩
    have e2 : (fun j => ([] : List Ob).length ≤ j) = fun _ => True := by funext j; simp
    rw [e2]
    exact hv
  refine (frame (κ := []) List.nodup_nil rfl (fun ob hob => by cases hob) ⟨rfl, fun i q q' h1 h2 => ?_⟩ h2 (fun i k hi => by simp at hi) (fun i k r c hi => by simp at hi)).mono ?_
  · rw [h1] at h2
    cases h2
    exact hargs q (List.mem_of_getElem? h1)
  · rintro o O m ⟨obs', _, rfl, rfl, rfl⟩
    exact ⟨rfl, by cases obs' <;> rfl, rfl⟩

/-- A body that runs to its end. -/
theorem says_run (hm : P.follows .mixedOrders = true) {G : Gl} (hG : GOK' P G) {call : CallT} (hc : CallOK ρ P call) {f : FuncId} {args : List V} {v' : V} (hargs : ∀ q ∈ args, Arg2 [] q q)
    (h : (bdy P G f).run call args [] hp0 0 (fun v hp _ => okIf (Frz (fun _ => True) (absO hp) v v')) (fun _ _ _ => .err 8) = .ok) : Says ρ P f args v' := by
  refine says_frame hargs ?_
  have := bdy_sound (ρ := ρ) hm hG hc h
  rw [absO_hp0, inL_nil] at this
  refine this.mono fun o O m hr => ?_
  cases o with
  | ret v =>
    obtain ⟨hp, rfl, h⟩ := hr
    exact ⟨v, rfl, okIf_inv h⟩
  | panic v =>
    obtain ⟨hp, _, h⟩ := hr
    exact Ans.no h

/-! ### Receivers -/

def hpR (row : List V) : Hp := put4 hp0 0 (.cell row)
theorem absO_hpR (row : List V) : absO (hpR row) = fun i => [boxOb row][i]? := by
  unfold hpR
  rw [absO_put (by omega), absO_hp0]
  funext i
  unfold Objs.put
  cases i with
  | zero => rfl
  | succ i => simp

/-- A row behind the call, as what it holds. -/
def FrzRow (O : Objs) (row' : List V) : Prop := ∃ row0, O 0 = some (boxOb row0) ∧ row'.length = row0.length ∧ ∀ (c : Nat) (q q' : V), row0[c]? = some q → row'[c]? = some q' → FrzC (fun j => 1 ≤ j) O q q'

/-- Of a receiver with the cells of row this is answered, and then its cells are those of row'; fi: the cells of it that are let alone. -/
def SaysM (ρ : Nat → Value) (P : Program) (f : FuncId) (fi : Nat → Nat → Prop) (row args : List V) (v : V) (row' : List V) : Prop :=
  ∀ (objs : Objs) (next : Nat) (forb : CellP) (k : Nat), objs k = some (boxOb row) → (∀ r c, forb k r c → fi r c) →
    QCalls ρ P f (.ptr k 0 0 :: args) objs next forb (fun o O m => o = .ret v ∧ O = Objs.put objs k (some (boxOb row')) ∧ m = next)

theorem Arg2.weak {κ : List Nat} {q q' : V} (h : Arg2 [] q q') : Arg2 κ q q' := by
  induction h with
  | flat q h => exact .flat q h
  | fn f => exact .fn f
  | ptr i k r c h => simp at h
  | sl i k off len full h => simp at h
  | agg l l' hl h ih => exact .agg l l' hl ih

theorem boxOb_row {row : List V} {r : Nat} {x : List V} (h : (boxOb row).row r = some x) : r = 0 ∧ x = row := by
  unfold boxOb at h
  cases r with
  | zero => simp at h; exact ⟨rfl, h.symm⟩
  | succ r => simp at h

theorem saysM_run (hm : P.follows .mixedOrders = true) {G : Gl} (hG : GOK' P G) {call : CallT} (hc : CallOK ρ P call) {f : FuncId} {fb : List PC} {row args row' : List V} {v' : V} (hrow : ∀ q ∈ row, q.flat = true) (hargs : ∀ q ∈ args, Arg2 [] q q)
    (h : (bdy P G f).run call (.ptr 0 0 0 :: args) fb (hpR row) 1 (fun v hp _ => okIf (Frz (fun j => 1 ≤ j) (absO hp) v v' ∧ FrzRow (absO hp) row')) (fun _ _ _ => .err 8) = .ok) : SaysM ρ P f (inL fb 0) row args v' row' := by
  intro objs next forb k hk hf
  have h1 := bdy_sound (ρ := ρ) hm hG hc h
  rw [absO_hpR] at h1
  have h2 : QCalls ρ P f (.ptr 0 0 0 :: args) (fun i => [boxOb row][i]?) [boxOb row].length (inL fb) (Inner [boxOb row].length fun o obs => o = .ret v' ∧ obs = [boxOb row']) := by
    refine h1.mono fun o O m hr => ?_
    cases o with
    | ret v =>
      obtain ⟨hp, rfl, h⟩ := hr
      obtain ⟨g1, row0, g2, g3, g4⟩ := okIf_inv h
      refine ⟨.ret v', [boxOb row'], .ret g1, rfl, fun i ob' hi => ?_, rfl, rfl⟩
      cases i with
      | zero =>
        simp at hi
        subst hi
        refine ⟨boxOb row0, g2, by show row'.length = row0.length; exact g3, fun r x hx => ?_⟩
        obtain ⟨rfl, rfl⟩ := boxOb_row hx
        exact ⟨row0, rfl, g3, g4⟩
      | succ i => simp at hi
    | panic v =>
      obtain ⟨hp, _, h⟩ := hr
      exact Ans.no h
  refine (frame (κ := [k]) (args := .ptr 0 0 0 :: args) (args' := .ptr k 0 0 :: args) (List.nodup_cons.mpr ⟨by simp, List.nodup_nil⟩) rfl (fun ob hob => ?_) ⟨rfl, fun i q q' h1 h2 => ?_⟩ h2 (fun i j hi => ?_) (fun i j r c hi hfb => ?_)).mono ?_
  · simp at hob
    subst hob
    intro r x hx
    obtain ⟨rfl, rfl⟩ := boxOb_row hx
    exact hrow
  · cases i with
    | zero =>
      simp at h1 h2
      subst h1 h2
      exact .ptr 0 k 0 0 rfl
    | succ i =>
      simp at h1 h2
      rw [h1] at h2
      cases h2
      have := hargs q (List.mem_of_getElem? h1)
      exact this.weak
  · cases i with
    | zero => simp at hi; subst hi; exact hk
    | succ i => simp at hi
  · cases i with
    | zero => simp at hi; subst hi; exact hf r c hfb
    | succ i => simp at hi
  · rintro o O m ⟨obs', _, ⟨rfl, rfl⟩, rfl, rfl⟩
    exact ⟨rfl, rfl, rfl⟩

/-- A receiver's answer as the evaluator asks for it. -/
noncomputable def ovM (F : List V → List V → Option (Bool × V × List V)) : OvT := fun args forb hp nx kr _ => match args with
  | .ptr k 0 0 :: args => (acc4 KOb k).get hp fun ob => match ob with
    | .cell row => match F row args with
      | some (c, v, row') => must c (noneK k forb ((acc4 KOb k).upd hp (.cell row') fun hp' => outK v fun v => kr v hp' nx))
      | none => .err 2
    | _ => .err 3
  | _ => .err 4

theorem ov_saysM {f : FuncId} {F : List V → List V → Option (Bool × V × List V)} (h : ∀ row args v row', F row args = some (true, v, row') → SaysM ρ P f (fun _ _ => False) row args v row') : OvOK ρ P f (ovM F) := by
  intro args forb hp nx kr kp hk
  unfold ovM at hk
  split at hk
  · rename_i k args
    obtain ⟨hlt, hk⟩ := acc4_get hk
    split at hk
    · rename_i ob row hob
      split at hk
      · rename_i c v row' hF
        obtain ⟨hc, hk2⟩ := must_inv hk
        subst hc
        obtain ⟨hn, hk3⟩ := noneK_inv hk2
        obtain ⟨_, hk4⟩ := acc4_upd hk3
        have hk5 := outK_inv hk4
        refine (h row args v row' hF (absO hp) nx (inL forb) k ?_ (fun r c hx => (hn r c hx).elim)).mono ?_
        · unfold absO
          rw [if_pos hlt, hob]
          rfl
        · rintro o O m ⟨rfl, rfl, rfl⟩
          exact ⟨put4 hp k (.cell row'), by rw [absO_put hlt]; rfl, hk5⟩
      · exact Ans.no hk
    · exact Ans.no hk
  · exact Ans.no hk

/-! ### What is known of packed texts -/

theorem Says.wf {f : FuncId} {args : List V} {v : V} {i len n : Nat} (hi : args[i]? = some (.ps len n)) (h : n < 256 ^ len → Says ρ P f args v) : Says ρ P f args v := by
  intro objs next forb w A T vals h1 h2 h3 h4
  exact h (rep_ps (h4 i _ hi)).2 objs next forb w A T vals h1 h2 h3 h4

theorem SaysM.wf {f : FuncId} {fi : Nat → Nat → Prop} {row args row' : List V} {v : V} {i len n : Nat} (hi : row[i]? = some (.ps len n)) (h : n < 256 ^ len → SaysM ρ P f fi row args v row') : SaysM ρ P f fi row args v row' := by
  intro objs next forb k hk hf w A T vals h1 h2 h3 h4
  obtain ⟨p, g1, g2, g3, C, t, g4, g5⟩ := h1.obj k _ hk
  obtain ⟨g6, g7, g8⟩ := g5 0 row rfl
  obtain ⟨x, g9, g10⟩ := g8 i _ hi
  exact h (rep_ps g10).2 objs next forb k hk hf w A T vals h1 h2 h3 h4

theorem part_eq {n len k : Nat} (h : n < 256 ^ len) (hk : k ≤ len) : n / 256 ^ k % 256 ^ (len - k) = n / 256 ^ k := by
  refine Nat.mod_eq_of_lt (Nat.div_lt_of_lt_mul ?_)
  rw [← Nat.pow_add]
  rwa [show k + (len - k) = len by omega]

theorem part_lt {n len k : Nat} (h : n < 256 ^ len) (hk : k ≤ len) : n / 256 ^ k < 256 ^ (len - k) := by
  rw [← part_eq h hk]
  exact Nat.mod_lt _ (Nat.pow_pos (by omega))
theorem byte0 (n : Nat) : n / 256 ^ 0 % 256 = n % 256 := by rw [Nat.pow_zero, Nat.div_one]

/-! ### Ends -/

theorem frz_nil {N : Nat → Prop} {O : Objs} : Frz N O (.tup []) (.tup []) := .tup _ _ rfl fun i q q' h => by simp at h
theorem frz_cons {N : Nat → Prop} {O : Objs} {q q' : V} {l l' : List V} (h : Frz N O q q') (hl : Frz N O (.tup l) (.tup l')) : Frz N O (.tup (q :: l)) (.tup (q' :: l')) := by
  cases hl with
  | flat _ h => cases h
  | cell h => cases h with | same _ h => cases h
  | tup _ _ h1 h2 =>
    refine .tup _ _ (by simp [h1]) fun i p p' g1 g2 => ?_
    cases i with
    | zero => simp at g1 g2; subst g1 g2; exact h
    | succ i => exact h2 i p p' (by simpa using g1) (by simpa using g2)
theorem frz_agg {N : Nat → Prop} {O : Objs} {l l' : List V} (hl : Frz N O (.tup l) (.tup l')) : Frz N O (.agg l) (.agg l') := by
  cases hl with
  | flat _ h => cases h
  | cell h => cases h with | same _ h => cases h
  | tup _ _ h1 h2 => exact .agg _ _ h1 h2

/-- The receiver's row, cell by cell. -/
theorem frz_row {O : Objs} {row row0 : List V} (h : O 0 = some (boxOb row0)) (e : row = row0) (hf : ∀ q ∈ row, q.flat = true ∧ q.one = true) : FrzRow O row := by
  subst e
  refine ⟨row, h, rfl, fun c q q' h1 h2 => ?_⟩
  rw [h1] at h2
  cases h2
  have := hf q (List.mem_of_getElem? h1)
  exact .same q this.2 this.1



theorem frz_bool {N : Nat → Prop} {O : Objs} {b b' : Bool} (e : b = b') : Frz N O (.bool b) (.bool b') := by subst e; exact .flat _ rfl
theorem frz_int {N : Nat → Prop} {O : Objs} {k : IntKind} {b b' : Int} (e : b = b') : Frz N O (.int k b) (.int k b') := by subst e; exact .flat _ rfl
theorem frz_ps {N : Nat → Prop} {O : Objs} {l l' n n' : Nat} (e : l = l') (e' : n = n') : Frz N O (.ps l n) (.ps l' n') := by subst e e'; exact .flat _ rfl

/-- A list of rows that was made afresh. -/
theorem frz_ls {hp : Hp} {k len es s : Nat} {full : Bool} {rows0 rows : List (List V)} (hk : k < 65536) (hes : es = s) (hr : rows0 = rows) (hl : rows.length = len) (hf : ∀ row ∈ rows, ∀ q ∈ row, q.flat = true ∧ q.one = true) :
    Frz (fun _ => True) (absO (put4 hp k (.ls es rows0))) (.sl k 0 len full) (.ro s rows) := by
  subst hes hr
  have ho : absO (put4 hp k (.ls es rows0)) k = some ⟨es, fun r => rows0[r]?⟩ := by
    unfold absO
    rw [if_pos hk, get4_same hk]
    rfl
  have e : (V.ro es rows0) = V.ro (Ob.mk es fun r => rows0[r]?).s rows0 := rfl
  rw [e]
  refine .cell (.sl k 0 len full ⟨es, fun r => rows0[r]?⟩ rows0 (fun r => (rows0[r]?).getD []) trivial ho hl (fun r row' h => ⟨?_, ?_⟩) fun r row' h c q q' h1 h2 => ?_)
  · show rows0[0 + r]? = _
    rw [Nat.zero_add, h]
    rfl
  · rw [h]
    rfl
  · have h1 : ((rows0[r]?).getD [])[c]? = some q := h1
    rw [h] at h1
    have h1 : row'[c]? = some q := h1
    rw [h1] at h2
    cases h2
    have := hf row' (List.mem_of_getElem? h) q (List.mem_of_getElem? h1)
    exact .same q this.2 this.1

end Go.Proofs.YtjljgldgkkfckaaDoor.M
