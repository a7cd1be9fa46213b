/- Code: one behind the other, tests, blocks, loops; regions in the order of the text. -/
import Derived.Test.YtjljgldgkkfckaaDoorMMore
namespace Go.Proofs.YtjljgldgkkfckaaDoor.M
open Go Go.RowKit
set_option linter.unusedSimpArgs false
set_option linter.unusedVariables false

inductive Ex where
  | normal
  | exit (id : Nat)
  | ret
  | panic (v : V)

/-- What outlives a panic. -/
def St.keepS (σ : St) : St := { σ with tmps := fun t => match σ.ks t with | true => σ.tmps t | false => .un }

variable {ρ : Nat → Value}

/-- Less is known of some slots. -/
theorem HoldsT.less {X : Ctx} {T : Tab} {σ : St} {a : Act} {w : World} (h : HoldsT ρ X T σ a w) (f : Nat → V) (hf : ∀ t, f t = σ.tmps t ∨ f t = .un) : HoldsT ρ X T { σ with tmps := f } a w :=
  ⟨h.pre, h.mem, h.top, fun t => by
    show Rep ρ w _ T (f t) _
    rcases hf t with e | e
    · rw [e]; exact h.tmp t
    · rw [e]; exact rep_un, h.size, h.defers, h.keep, h.fresh, h.old, h.stay, h.pc, h.hforb, h.hks⟩

theorem HoldsT.keepS {X : Ctx} {T : Tab} {σ : St} {a : Act} {w : World} (h : HoldsT ρ X T σ a w) : HoldsT ρ X T σ.keepS a w :=
  h.less _ fun t => by cases σ.ks t <;> simp

/-- What holds behind a piece of code, said of the machine. -/
def Post (ρ : Nat → Value) (X : Ctx) (K : Ex → St → Prop) : Exit → Act → World → Prop
  | .normal, a, w => ∃ T σ, K .normal σ ∧ HoldsT ρ X T σ a w
  | .exit id, a, w => ∃ T σ, K (.exit id) σ ∧ HoldsT ρ X T σ a w
  | .ret, a, w => ∃ T σ, K .ret σ ∧ HoldsT ρ X T σ a w
  | .panic chain, a, w => ∃ T σ v x, chain = [{ v := x, recovered := false }] ∧ K (.panic v) σ ∧ Rep ρ w (Live X.A T σ.objs) T v x ∧ HoldsT ρ X T σ.keepS a w
  | _, _, _ => False

def QC (ρ : Nat → Value) (P : Program) (c : Code) (σ : St) (K : Ex → St → Prop) : Prop :=
  ∀ (X : Ctx) (T : Tab) (a : Act) (w : World), HoldsT ρ X T σ a w → c.wp P (Post ρ X K) a w

theorem Post.mono {X : Ctx} {K K' : Ex → St → Prop} (h : ∀ e σ, K e σ → K' e σ) : ∀ (e : Exit) (a : Act) (w : World), Post ρ X K e a w → Post ρ X K' e a w := by
  intro e a w hp
  cases e with
  | normal => obtain ⟨T, σ, h1, h2⟩ := hp; exact ⟨T, σ, h _ _ h1, h2⟩
  | exit id => obtain ⟨T, σ, h1, h2⟩ := hp; exact ⟨T, σ, h _ _ h1, h2⟩
  | ret => obtain ⟨T, σ, h1, h2⟩ := hp; exact ⟨T, σ, h _ _ h1, h2⟩
  | panic c => obtain ⟨T, σ, v, x, h1, h2, h3⟩ := hp; exact ⟨T, σ, v, x, h1, h _ _ h2, h3⟩
  | goto l => exact hp
  | outgrown => exact hp

variable {P : Program} {σ : St} {K : Ex → St → Prop}

theorem QC.mono {c : Code} {K' : Ex → St → Prop} (h : QC ρ P c σ K) (hk : ∀ e σ, K e σ → K' e σ) : QC ρ P c σ K' :=
  fun X T a w hh => wp_mono (h X T a w hh) (Post.mono hk)

def thenK (K : Ex → St → Prop) (N : St → Prop) : Ex → St → Prop
  | .normal, σ => N σ
  | e, σ => K e σ

theorem q_seq {x y : Code} (h : QC ρ P x σ (thenK K fun σ' => QC ρ P y σ' K)) : QC ρ P (.seq x y) σ K := by
  intro X T a w hh
  refine wp_seq (wp_mono (h X T a w hh) ?_)
  intro e a' w' hp
  cases e with
  | normal => obtain ⟨T', σ', h1, h2⟩ := hp; exact h1 X T' a' w' h2
  | exit id => exact hp
  | ret => exact hp
  | panic c => exact hp
  | goto l => exact hp
  | outgrown => exact hp

theorem q_skip (h : K .normal σ) : QC ρ P .skip σ K := fun X T a w hh => wp_skip ⟨T, σ, h, hh⟩
theorem q_exit {id : Nat} (h : K (.exit id) σ) : QC ρ P (.exit id) σ K := fun X T a w hh => wp_exit ⟨T, σ, h, hh⟩
theorem q_ret (h : K .ret σ) : QC ρ P .ret σ K := fun X T a w hh => wp_ret ⟨T, σ, h, hh⟩

theorem q_cond {c : Operand} {x y : Code} {t : Bool} (hc : evalV σ c = .bool t) (h : QC ρ P (match t with | true => x | false => y) σ K) : QC ρ P (.cond c x y) σ K := by
  intro X T a w hh
  refine wp_cond (rep_bool (ev_rep hh hc)) ?_
  cases t with
  | true => exact h X T a w hh
  | false => exact h X T a w hh

def blockK (id : Nat) (K : Ex → St → Prop) : Ex → St → Prop
  | .exit j, σ => match Nat.beq j id with
    | true => K .normal σ
    | false => K (.exit j) σ
  | e, σ => K e σ

theorem q_block {id : Nat} {c : Code} (h : QC ρ P c σ (blockK id K)) : QC ρ P (.block id c) σ K := by
  intro X T a w hh
  refine wp_block (wp_mono (h X T a w hh) ?_)
  intro e a' w' hp
  cases e with
  | exit j =>
    obtain ⟨T', σ', h1, h2⟩ := hp
    show if j = id then Post ρ X K .normal a' w' else Post ρ X K (.exit j) a' w'
    by_cases e : j = id
    · subst e
      rw [if_pos rfl]
      simp only [blockK, Nat.beq_refl] at h1
      exact ⟨T', σ', h1, h2⟩
    · rw [if_neg e]
      have : Nat.beq j id = false := by
        cases hb : Nat.beq j id with
        | false => rfl
        | true => exact absurd (Nat.eq_of_beq_eq_true hb) e
      simp only [blockK, this] at h1
      exact ⟨T', σ', h1, h2⟩
  | normal => exact hp
  | ret => exact hp
  | panic c => exact hp
  | goto l => exact hp
  | outgrown => exact hp

/-- Rounds of a loop, one by one. -/
def QR (ρ : Nat → Value) (P : Program) (c : Code) (K : Ex → St → Prop) : Nat → St → Prop
  | 0, _ => False
  | n + 1, σ => QC ρ P c σ (thenK K (QR ρ P c K n))

theorem QR.mono {c : Code} : ∀ (n m : Nat) (σ : St), n ≤ m → QR ρ P c K n σ → QR ρ P c K m σ
  | 0, _, _, _, h => h.elim
  | n + 1, 0, _, hm, _ => by omega
  | n + 1, m + 1, σ, hm, h => QC.mono h fun e σ' h' => by
    cases e with
    | normal => exact QR.mono n m σ' (by omega) h'
    | _ => exact h'

theorem QR.sound {c : Code} : ∀ (n : Nat) (σ : St), QR ρ P c K n σ → ∀ (X : Ctx) (T : Tab) (a : Act) (w : World), HoldsT ρ X T σ a w → Code.rounds P c (Post ρ X K) n a w
  | 0, σ, h, _, _, _, _, _ => h.elim
  | n + 1, σ, h, X, T, a, w, hh => by
    rw [rounds_succ]
    refine wp_mono (h X T a w hh) ?_
    intro e a' w' hp
    cases e with
    | normal => obtain ⟨T', σ', h1, h2⟩ := hp; exact QR.sound n σ' h1 X T' a' w' h2
    | exit id => exact hp
    | ret => exact hp
    | panic c => exact hp
    | goto l => exact hp
    | outgrown => exact hp

theorem q_rounds {c : Code} (n : Nat) (h : QR ρ P c K n σ) : QC ρ P (.loop c) σ K := fun X T a w hh => wp_loop_rounds n (QR.sound n σ h X T a w hh)

/-! ### Operations -/

/-- From one state of things to the next one, where the cells of C are let alone. -/
structure StepT (C : CellP) (T : Tab) (objs : Objs) (w : World) (T' : Tab) (objs' : Objs) (w' : World) : Prop where
  stab : Stab (LiveO T objs) w w'
  cells : SameC T objs C w w'
  ext : ∀ (k : Nat) (p : Pl), T k = some p → T' k = some p
  stay : ∀ k r c, C k r c → objs k ≠ none → objs' k ≠ none
  live : ∀ b, b < w.heap.size → LiveO T' objs' b → LiveO T objs b
  map : ∀ (k : Nat) (p : Pl), T' k = some p → p.b < w.heap.size → ∃ k' p', T k' = some p' ∧ p'.b = p.b

theorem StepT.refl (C : CellP) (T : Tab) (objs : Objs) (w : World) : StepT C T objs w T objs w :=
  ⟨Stab.refl _ _, SameC.refl _ _ _ _, fun _ _ h => h, fun _ _ _ _ h => h, fun _ _ h => h, fun k p h _ => ⟨k, p, h, rfl⟩⟩

/-- An operation that writes no cell of C. -/
def QO (ρ : Nat → Value) (P : Program) (C : CellP) (o : Oper) (σ : St) (N : St → Prop) (K : Ex → St → Prop) : Prop :=
  ∀ (X : Ctx) (T : Tab) (a : Act) (w : World), HoldsT ρ X T σ a w →
    o.wp P a w (fun a' w' => ∃ T' σ', N σ' ∧ HoldsT ρ X T' σ' a' w' ∧ StepT C T σ.objs w T' σ'.objs w') (Post ρ X K)

theorem QO.mono {C : CellP} {o : Oper} {N N' : St → Prop} (h : QO ρ P C o σ N K) (hn : ∀ σ, N σ → N' σ) : QO ρ P C o σ N' K :=
  fun X T a w hh => Oper.wp_mono (fun _ _ ⟨T', σ', h1, h2, h3⟩ => ⟨T', σ', hn _ h1, h2, h3⟩) (h X T a w hh)

/-- Is the slot that is written one of the frame's? -/
def dstOK (o : Oper) (σ : St) : Prop := ∀ t, o.dst = some t → t < σ.n

theorem put_objs (σ : St) (d : Option Tmp) (v : V) : (σ.put d v).objs = σ.objs := by cases d <;> rfl

theorem HoldsT.put {X : Ctx} {T : Tab} {a : Act} {w : World} (h : HoldsT ρ X T σ a w) {d : Option Tmp} {v : V} {x : Value} (hx : Rep ρ w (Live X.A T σ.objs) T v x)
    (hd : ∀ t, d = some t → t < σ.n) : HoldsT ρ X T (σ.put d v) (a.put d x) w := by
  cases d with
  | none => exact h
  | some t =>
    have ht := hd t rfl
    refine ⟨h.pre, h.mem, h.top, ?_, ?_, h.defers, h.keep, h.fresh, h.old, h.stay, h.pc, h.hforb, h.hks⟩
    · intro u
      show Rep ρ w _ T (if u = t then v else σ.tmps u) ((a.tmps.setIfInBounds t x).getD u undef)
      by_cases e : u = t
      · subst e
        rw [if_pos rfl]
        have : (a.tmps.setIfInBounds u x)[u]? = some x := by simp [h.size, ht]
        rw [getD_of this]
        exact hx
      · rw [if_neg e]
        have : (a.tmps.setIfInBounds t x).getD u undef = a.tmps.getD u undef := by
          simp [Array.getD_eq_getD_getElem?, Array.getElem?_setIfInBounds, Ne.symm e]
        rw [this]
        exact h.tmp u
    · show (a.tmps.setIfInBounds t x).size = σ.n
      simp [h.size]

theorem qo_quiet {C : CellP} {o : Oper} {v : V} {N : St → Prop} (hq : QQ ρ P σ C o v) (hd : dstOK o σ) (h : N (σ.put o.dst v)) : QO ρ P C o σ N K := by
  intro X T a w hh
  obtain ⟨x, hx, hrun⟩ := hq X T a w hh
  unfold Oper.wp
  rw [hrun w (Stab.refl _ _) (SameC.refl _ _ _ _)]
  refine ⟨T, _, h, hh.put hx hd, ?_⟩
  rw [put_objs]
  exact StepT.refl _ _ _ _

/-! ### Regions in the order of the text -/

/-- What a guard's slot says: is the operation wanted? -/
def wantV (ops : Array Oper) (σ : St) (o : Oper) : Option Bool :=
  match o.guard with
  | none => some true
  | some (j, b) => match (ops[j]?).bind (·.dst) with
    | none => none
    | some t => match σ.tmps t with
      | .bool x => some (x == b)
      | .sc (.tuple _) => some false
      | _ => none

theorem wantV_spec {X : Ctx} {T : Tab} {a : Act} {w : World} (h : HoldsT ρ X T σ a w) {ops : Array Oper} {o : Oper} {b : Bool} (hw : wantV ops σ o = some b) :
    Region.wanted o (yielded ops a.tmps) = b := by
  unfold wantV at hw
  unfold Region.wanted
  split at hw
  · rename_i hg
    cases hw
    rw [hg]
  · rename_i j c hg
    rw [hg]
    simp only
    split at hw
    · cases hw
    · rename_i t ht
      have hr0 := h.tmp t
      split at hw
      · rename_i y hl
        cases hw
        rw [hl] at hr0
        have hr := rep_bool hr0
        have : a.tmps[t]? = some (.bool y) := by
          rw [Array.getD_eq_getD_getElem?] at hr
          cases he : a.tmps[t]? with
          | none => rw [he] at hr; simp [undef] at hr
          | some z => rw [he] at hr; simp at hr; rw [hr]
        simp [yielded, ht, this]
      · rename_i y hl
        cases hw
        rw [hl] at hr0
        have hr := rep_sc hr0
        rw [Array.getD_eq_getD_getElem?] at hr
        cases he : a.tmps[t]? with
        | none => simp [yielded, ht, he]
        | some z => rw [he] at hr; simp at hr; simp [yielded, ht, he, hr]
      · cases hw

/-- Operations one behind the other. -/
def QS (ρ : Nat → Value) (P : Program) (ops : Array Oper) (K : Ex → St → Prop) (todo : List Oper) (σ : St) : Prop :=
  ∀ (X : Ctx) (T : Tab) (a : Act) (w : World), HoldsT ρ X T σ a w → wpList P ops (Post ρ X K) todo a w

theorem q_region {id : Nat} {ops : Array Oper} (h : QS ρ P ops K ops.toList σ) : QC ρ P (.region id ops false) σ K := fun X T a w hh => wp_region_list (h X T a w hh)

theorem qs_done {ops : Array Oper} (h : K .normal σ) : QS ρ P ops K [] σ := fun X T a w hh => ⟨T, σ, h, hh⟩

theorem qs_by {ops : Array Oper} {o : Oper} {rest : List Oper} {C : CellP} (hw : wantV ops σ o = some true) (h : QO ρ P C o σ (QS ρ P ops K rest) K) : QS ρ P ops K (o :: rest) σ := by
  intro X T a w hh
  unfold wpList
  rw [if_pos (wantV_spec hh hw)]
  exact .inl (Oper.wp_mono (fun a' w' ⟨T', σ', h3, h4, _⟩ => h3 X T' a' w' h4) (h X T a w hh))

theorem qs_skip {ops : Array Oper} {o : Oper} {rest : List Oper} (hw : wantV ops σ o = some false) (hd : dstOK o σ) (h : QS ρ P ops K rest (σ.put o.dst (.sc undef))) : QS ρ P ops K (o :: rest) σ := by
  intro X T a w hh
  unfold wpList
  rw [if_neg (by rw [wantV_spec hh hw]; simp)]
  exact h X T _ w (hh.put (.pure (.sc _)) hd)

end Go.Proofs.YtjljgldgkkfckaaDoor.M
