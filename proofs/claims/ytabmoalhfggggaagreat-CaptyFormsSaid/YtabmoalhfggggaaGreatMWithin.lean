/- columbarykeep.Within. -/
import Derived.Test.YtabmoalhfggggaaGreatMLaw
import Derived.Test.YtabmoalhfggggaaGreatMPlan
import Derived.KernelRfl
namespace Go.Proofs.YtabmoalhfggggaaGreat.M
open Go Go.RowKit
set_option linter.unusedSimpArgs false
set_option linter.unusedVariables false

variable {ρ : Nat → Value} {P : Program} {σ : St} {K : Ex → St → Prop}

theorem q_cond2 {c : Operand} {x y : Code} {t : Bool} (hc : evalV σ c = .bool t) (h1 : t = true → QC ρ P x σ K) (h2 : t = false → QC ρ P y σ K) : QC ρ P (.cond c x y) σ K := by
  refine q_cond hc ?_
  cases t with
  | true => exact h1 rfl
  | false => exact h2 rfl

theorem qs_quiet {ops : Array Oper} {o : Oper} {rest : List Oper} {v : V} (hw : wantV ops σ o = some true) (hq : QQ ρ P σ (fun _ _ _ => False) o v) (hd : dstOK o σ) (h : QS ρ P ops K rest (σ.put o.dst v)) : QS ρ P ops K (o :: rest) σ :=
  qs_by hw (qo_quiet hq hd h)

theorem fin_tmp {fn : Func} {R : Out → Objs → Nat → Prop} {t : Nat} {v : V} (hr : fn.results = #[.tmp t]) (hd : σ.defs = []) (hv : σ.tmps t = v) (h : R (.ret v) σ.objs σ.next) : QFin ρ P fn R σ.defs none σ := by
  rw [hd]
  refine ⟨resV [σ.tmps t], res_ok (by rw [hr]; rfl) (fun i rv q h1 h2 => ?_), ?_⟩
  · rw [hr] at h1
    match i with
    | 0 =>
      simp at h1 h2
      subst h1 h2
      exact .tmp t
    | i + 1 => simp at h1
  · show R (.ret (σ.tmps t)) σ.objs σ.next
    rw [hv]; exact h

attribute [local irreducible] QC QS QFin in
theorem within_ok (n : Int) (b : Nat) (hb : 1 ≤ b) (objs : Objs) (next : Nat) (forb : CellP) :
    QCalls ρ Tryz.prog 13 [.int .i64 n, .int .i64 (.ofNat b)] objs next forb (fun o O m => o = .ret (.int .i64 (withinM n (.ofNat b))) ∧ O = objs ∧ m = next) := by
  refine qcalls_body (fun _ => false) Tryz.func13 rfl ?_
  repeat' first
    | refine q_seq ?_
    | refine q_region ?_
    | refine qs_quiet rfl (qq_move (.inl rfl)) (fun t ht => by cases ht; exact of_decide_eq_true rfl) ?_
    | refine qs_quiet rfl (qq_move (.inr rfl)) (fun t ht => by cases ht; exact of_decide_eq_true rfl) ?_
    | refine qs_quiet rfl (qq_binI rfl rfl rfl rfl) (fun t ht => by cases ht; exact of_decide_eq_true rfl) ?_
    | refine qs_quiet rfl (qq_rem rfl rfl rfl (by have : Int.ofNat b = (b : Int) := rfl; omega)) (fun t ht => by cases ht; exact of_decide_eq_true rfl) ?_
    | refine qs_done ?_
    | refine q_cond2 rfl (fun hc => ?_) (fun hc => ?_)
    | refine q_skip ?_
    | refine q_ret ?_
    | refine fin_tmp rfl rfl rfl ?_
  · exact absurd (of_decide_eq_true hc) (by have : Int.ofNat b = (b : Int) := rfl; omega)
  all_goals refine ⟨?_, rfl, rfl⟩
  · rename_i h1
    have h2 : n.tmod (Int.ofNat b) < 0 := of_decide_eq_true hc
    unfold withinM
    rw [if_pos h2]
    rfl
  · have h2 : ¬ n.tmod (Int.ofNat b) < 0 := of_decide_eq_false hc
    unfold withinM
    rw [if_neg h2]
    rfl

/-- Whatever the argument: the answer is one of so many. -/
theorem within_told {n : Int} {b : Nat} (hb : 0 < b) (hb2 : b < 1000) : ∃ k, k < b ∧ ∀ ρ : Nat → Value, ρ 0 = .int .i64 n → Told ρ Tryz.prog 13 b k := by
  obtain ⟨k, h1, h2⟩ := withinM_lt n b hb hb2
  refine ⟨k, h1, fun ρ hρ => told_of hρ fun objs next forb => ?_⟩
  rw [← h2]
  exact within_ok n b hb objs next forb

end Go.Proofs.YtabmoalhfggggaaGreat.M
