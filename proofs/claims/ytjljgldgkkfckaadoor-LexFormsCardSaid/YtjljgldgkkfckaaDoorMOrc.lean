/- A run in which one function's answer is told. -/
import Derived.Test.YtjljgldgkkfckaaDoorMEf
namespace Go.Proofs.YtjljgldgkkfckaaDoor.M
open Go Go.RowKit
set_option linter.unusedSimpArgs false
set_option linter.unusedVariables false

variable {ρ : Nat → Value} {P : Program}

/-- The argument that is whatever it is, and a bound. -/
def argsN (b : Nat) : List V → Bool
  | [.sym 0, .int .i64 (.ofNat c)] => Nat.beq c b
  | _ => false
theorem argsN_ok {b : Nat} {l : List V} (h : argsN b l = true) : l = [.sym 0, .int .i64 (.ofNat b)] := by
  unfold argsN at h
  split at h
  · rw [Nat.eq_of_beq_eq_true h]
  · cases h

/-- Function f0 answers k. -/
noncomputable def withO (f0 : FuncId) (b k : Nat) (c : CallT) : CallT := fun f args forb hp nx kr kp => boolK (Nat.beq f f0) (must (argsN b args) (kr (.int .i64 (.ofNat k)) hp nx)) (c f args forb hp nx kr kp)

noncomputable def runO (P : Program) (G : Gl) (f0 : FuncId) (b k : Nat) (n : Nat) : CallT :=
  Nat.rec (motive := fun _ => CallT) (fun _ _ _ _ _ _ _ => .err 81) (fun _ ih f args forb hp nx kr kp => (bdy P G f).run (withO f0 b k ih) args forb hp nx kr kp) n

/-- What the function truly does. -/
def Told (ρ : Nat → Value) (P : Program) (f0 : FuncId) (b k : Nat) : Prop :=
  ∀ (objs : Objs) (next : Nat) (forb : CellP), QCalls ρ P f0 [.sym 0, .int .i64 (.ofNat b)] objs next forb (fun o O m => o = .ret (.int .i64 (.ofNat k)) ∧ O = objs ∧ m = next)

theorem withO_ok {f0 : FuncId} {b k : Nat} (ht : Told ρ P f0 b k) {c : CallT} (hc : CallOK ρ P c) : CallOK ρ P (withO f0 b k c) := by
  intro f args forb hp nx kr kp h
  rcases boolK_inv h with ⟨h1, h⟩ | ⟨h1, h⟩
  · obtain ⟨h2, h⟩ := must_inv h
    rw [Nat.eq_of_beq_eq_true h1, argsN_ok h2]
    refine (ht (absO hp) nx (inL forb)).mono fun o O m ⟨e1, e2, e3⟩ => ?_
    rw [e1, e2, e3]
    exact ⟨hp, rfl, h⟩
  · exact hc f args forb hp nx kr kp h

theorem runO_ok (hm : P.follows .mixedOrders = true) {G : Gl} (hG : GOK' P G) {f0 : FuncId} {b k : Nat} (ht : Told ρ P f0 b k) : ∀ n, CallOK ρ P (runO P G f0 b k n)
  | 0 => fun f args forb hp nx kr kp h => Ans.no h
  | n + 1 => fun f args forb hp nx kr kp h => bdy_sound hm hG (withO_ok ht (runO_ok hm hG ht n)) h

/-- Asked so, the kernel reckons the run as a whole. -/
noncomputable def isOk (a : Ans) : Bool := Ans.rec true (fun _ => false) a
theorem isOk_ok {a : Ans} (h : isOk a = true) : a = .ok := by
  cases a with
  | ok => rfl
  | err n => cases h

/-- It must be true, or it must not be. -/
noncomputable def sayTrue : V → Hp → Nat → Ans := fun v _ _ => v.onBool fun b => boolK b .ok (.err 200)
noncomputable def sayNo : V → Hp → Nat → Ans := fun _ _ _ => .err 201

theorem runO_true (hm : P.follows .mixedOrders = true) {G : Gl} (hG : GOK' P G) {f0 : FuncId} {b k n : Nat} (ht : Told ρ P f0 b k) {f : FuncId} (h : isOk (runO P G f0 b k n f [.sym 0] [] hp0 0 sayTrue sayNo) = true) :
    QCalls ρ P f [.sym 0] (absO hp0) 0 (inL []) (fun o _ _ => o = .ret (.bool true)) := by
  refine (runO_ok hm hG ht n f [.sym 0] [] hp0 0 sayTrue sayNo (isOk_ok h)).mono fun o O m hr => ?_
  cases o with
  | ret v =>
    obtain ⟨hp, _, h⟩ := hr
    obtain ⟨t, h1, h⟩ := V.onBool_inv h
    rcases boolK_inv h with ⟨rfl, _⟩ | ⟨_, h⟩
    · rw [h1]
    · exact Ans.no h
  | panic v =>
    obtain ⟨hp, _, h⟩ := hr
    exact Ans.no h

theorem absO_hp0 : absO hp0 = fun _ => none := by
  funext k
  unfold absO hp0 get4 get3 get2
  rw [N16.get_all, N16.get_all, N16.get_all, N16.get_all]
  split <;> rfl

end Go.Proofs.YtjljgldgkkfckaaDoor.M
