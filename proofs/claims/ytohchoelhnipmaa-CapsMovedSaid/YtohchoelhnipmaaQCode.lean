/- Code of the logic: one behind the other, tests, blocks, loops, regions. -/
import Derived.Test.YtohchoelhnipmaaQQuiet
namespace Go.Proofs.Ytohchoelhnipmaa.Q
open Go Go.RowKit
set_option linter.unusedSimpArgs false
set_option linter.unusedVariables false

inductive Ex where
  | normal
  | exit (id : Nat)
  | ret
  | panic (v : V)

/-- What holds behind a piece of code, said of the machine. -/
def Post (X : Ctx) (K : Ex → St → Prop) : Exit → Act → World → Prop
  | .normal, a, w => ∃ T σ, K .normal σ ∧ HoldsT X T σ a w
  | .exit id, a, w => ∃ T σ, K (.exit id) σ ∧ HoldsT X T σ a w
  | .ret, a, w => ∃ T σ, K .ret σ ∧ HoldsT X T σ a w
  | .panic chain, a, w => a.defers = [] ∧ ∃ T objs v x, chain = [{ v := x, recovered := false }] ∧ K (.panic v) ⟨0, [], objs, X.T0.length, X.mods⟩ ∧ Rep w (Live X.A T objs) T v x ∧
      HoldsT X T ⟨0, [], objs, X.T0.length, X.mods⟩ ⟨#[], []⟩ w
  | _, _, _ => False

def QC (P : Program) (c : Code) (σ : St) (K : Ex → St → Prop) : Prop :=
  ∀ (X : Ctx) (T : Tab) (a : Act) (w : World), HoldsT X T σ a w → c.wp P (Post X K) a w

theorem Post.mono {X : Ctx} {K K' : Ex → St → Prop} (h : ∀ e σ, K e σ → K' e σ) : ∀ (e : Exit) (a : Act) (w : World), Post X K e a w → Post X K' e a w := by
  intro e a w hp
  cases e with
  | normal => obtain ⟨T, σ, h1, h2⟩ := hp; exact ⟨T, σ, h _ _ h1, h2⟩
  | exit id => obtain ⟨T, σ, h1, h2⟩ := hp; exact ⟨T, σ, h _ _ h1, h2⟩
  | ret => obtain ⟨T, σ, h1, h2⟩ := hp; exact ⟨T, σ, h _ _ h1, h2⟩
  | panic c => obtain ⟨h0, T, objs, v, x, h1, h2, h3⟩ := hp; exact ⟨h0, T, objs, v, x, h1, h _ _ h2, h3⟩
  | goto l => exact hp
  | outgrown => exact hp

variable {P : Program} {σ : St} {K : Ex → St → Prop}

theorem QC.mono {c : Code} {K' : Ex → St → Prop} (h : QC P c σ K) (hk : ∀ e σ, K e σ → K' e σ) : QC P c σ K' :=
  fun X T a w hh => wp_mono (h X T a w hh) (Post.mono hk)

def thenK (K : Ex → St → Prop) (N : St → Prop) : Ex → St → Prop
  | .normal, σ => N σ
  | e, σ => K e σ

theorem q_seq {x y : Code} (h : QC P x σ (thenK K fun σ' => QC P y σ' K)) : QC P (.seq x y) σ K := by
  intro X T a w hh
  refine wp_seq (wp_mono (h X T a w hh) ?_)
  intro e a' w' hp
  cases e with
  | normal => obtain ⟨T', σ', h1, h2⟩ := hp; exact h1 X T' a' w' h2
  | exit id => exact hp
  | ret => exact hp
  | panic c => exact hp
  | goto l => exact hp
  | outgrown => exact hp

theorem q_skip (h : K .normal σ) : QC P .skip σ K := fun X T a w hh => wp_skip ⟨T, σ, h, hh⟩
theorem q_exit {id : Nat} (h : K (.exit id) σ) : QC P (.exit id) σ K := fun X T a w hh => wp_exit ⟨T, σ, h, hh⟩
theorem q_ret (h : K .ret σ) : QC P .ret σ K := fun X T a w hh => wp_ret ⟨T, σ, h, hh⟩

theorem q_cond {c : Operand} {x y : Code} {t : Bool} (hc : evalV σ c = some (.sc (.bool t))) (h1 : t = true → QC P x σ K) (h2 : t = false → QC P y σ K) : QC P (.cond c x y) σ K := by
  intro X T a w hh
  exact wp_cond_split (rep_sc (eval_rep hh hc)) (fun e => h1 e X T a w hh) (fun e => h2 e X T a w hh)

def blockK (id : Nat) (K : Ex → St → Prop) : Ex → St → Prop
  | .exit j, σ => match Nat.beq j id with
    | true => K .normal σ
    | false => K (.exit j) σ
  | e, σ => K e σ

theorem q_block {id : Nat} {c : Code} (h : QC P c σ (blockK id K)) : QC P (.block id c) σ K := by
  intro X T a w hh
  refine wp_block (wp_mono (h X T a w hh) ?_)
  intro e a' w' hp
  cases e with
  | exit j =>
    obtain ⟨T', σ', h1, h2⟩ := hp
    show if j = id then Post X K .normal a' w' else Post X K (.exit j) a' w'
    by_cases e : j = id
    · subst e
      rw [if_pos rfl]
      simp only [blockK, Nat.beq_refl] at h1
      exact ⟨T', σ', h1, h2⟩
    · rw [if_neg e]
      have : Nat.beq j id = false := by
        cases hb : Nat.beq j id with
        | false => rfl
        | true => exact absurd (Nat.eq_of_beq_eq_true hb) e
      simp only [blockK, this] at h1
      exact ⟨T', σ', h1, h2⟩
  | normal => exact hp
  | ret => exact hp
  | panic c => exact hp
  | goto l => exact hp
  | outgrown => exact hp

theorem least {p : Nat → Prop} (h : ∃ n, p n) : ∃ n, p n ∧ ∀ m, p m → n ≤ m := by
  classical
  obtain ⟨n, hn⟩ := h
  induction n using Nat.strongRecOn with
  | _ n ih =>
    by_cases g : ∃ m, m < n ∧ p m
    · obtain ⟨m, hm, hp⟩ := g
      exact ih m hm hp
    · exact ⟨n, hn, fun m hm => by
        rcases Nat.lt_or_ge m n with h | h
        · exact absurd ⟨m, h, hm⟩ g
        · exact h⟩

/-- A loop: I n: what holds at its head when at most n rounds are left. -/
theorem q_loop {c : Code} (I : Nat → St → Prop) (n : Nat) (h0 : I n σ)
    (hr : ∀ n σ, I n σ → QC P c σ (thenK K fun σ' => ∃ m, m < n ∧ I m σ')) : QC P (.loop c) σ K := by
  intro X T a w hh
  classical
  let good (a : Act) (w : World) (n : Nat) : Prop := ∃ T σ, I n σ ∧ HoldsT X T σ a w
  let μ (a : Act) (w : World) : Nat := if h : ∃ n, good a w n then (least h).choose else 0
  refine wp_loop (fun a w => ∃ n, good a w n) μ ⟨n, T, σ, h0, hh⟩ ?_
  intro a w hI
  have hμ : μ a w = (least hI).choose := by simp only [μ]; rw [dif_pos hI]
  obtain ⟨T1, σ1, h1, h2⟩ := (least hI).choose_spec.1
  refine wp_mono (hr _ σ1 h1 X T1 a w h2) ?_
  intro e a' w' hp
  cases e with
  | normal =>
    obtain ⟨T', σ', ⟨m, hm, hIm⟩, h4⟩ := hp
    have hg : ∃ n, good a' w' n := ⟨m, T', σ', hIm, h4⟩
    refine ⟨hg, ?_⟩
    have : μ a' w' = (least hg).choose := by simp only [μ]; rw [dif_pos hg]
    rw [this, hμ]
    exact Nat.lt_of_le_of_lt ((least hg).choose_spec.2 m ⟨T', σ', hIm, h4⟩) hm
  | exit id => exact hp
  | ret => exact hp
  | panic c => exact hp
  | goto l => exact hp
  | outgrown => exact hp

end Go.Proofs.Ytohchoelhnipmaa.Q
