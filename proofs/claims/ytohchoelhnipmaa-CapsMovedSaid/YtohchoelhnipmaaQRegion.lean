/- Regions of the logic: operations in the order of the text, or in whatever order. -/
import Derived.Test.YtohchoelhnipmaaQCode
namespace Go.Proofs.Ytohchoelhnipmaa.Q
open Go Go.RowKit
set_option linter.unusedSimpArgs false
set_option linter.unusedVariables false

variable {P : Program} {σ : St} {K : Ex → St → Prop}

/-- An operation, whatever it does. -/
def QO0 (P : Program) (o : Oper) (σ : St) (N : St → Prop) (K : Ex → St → Prop) : Prop :=
  ∀ (X : Ctx) (T : Tab) (a : Act) (w : World), HoldsT X T σ a w →
    o.wp P a w (fun a' w' => ∃ T' σ', N σ' ∧ HoldsT X T' σ' a' w') (Post X K)

/-- An operation that writes no object but those of rm. -/
def QO (P : Program) (rm : List Nat) (o : Oper) (σ : St) (N : St → Prop) (K : Ex → St → Prop) : Prop :=
  ∀ (X : Ctx) (T : Tab) (a : Act) (w : World), HoldsT X T σ a w →
    o.wp P a w (fun a' w' => ∃ T' σ', N σ' ∧ HoldsT X T' σ' a' w' ∧ Stab (rmB T σ.objs rm) w w' ∧
      (∀ b, b < w.heap.size → rmB T' σ'.objs rm b → rmB T σ.objs rm b)) (Post X K)

theorem QO.any {rm : List Nat} {o : Oper} {N : St → Prop} (h : QO P rm o σ N K) : QO0 P o σ N K :=
  fun X T a w hh => Oper.wp_mono (fun _ _ ⟨T', σ', h1, h2, _⟩ => ⟨T', σ', h1, h2⟩) (h X T a w hh)

theorem QO0.mono {o : Oper} {N N' : St → Prop} (h : QO0 P o σ N K) (hn : ∀ σ, N σ → N' σ) : QO0 P o σ N' K :=
  fun X T a w hh => Oper.wp_mono (fun _ _ ⟨T', σ', h1, h2⟩ => ⟨T', σ', hn _ h1, h2⟩) (h X T a w hh)

/-- Is the slot that is written one of the frame's? -/
def dstOK (o : Oper) (σ : St) : Bool := match o.dst with
  | some d => Nat.blt d σ.n
  | none => true

theorem look_put (l : List (Nat × V)) (t : Nat) (v : V) : look ((t, v) :: l) t = some v := by simp [look, Nat.beq_refl]
theorem look_put_ne (l : List (Nat × V)) {t u : Nat} (v : V) (h : t ≠ u) : look ((t, v) :: l) u = look l u := by
  have : Nat.beq t u = false := by
    cases hb : Nat.beq t u with
    | false => rfl
    | true => exact absurd (Nat.eq_of_beq_eq_true hb) h
  simp [look, this]

theorem HoldsT.put {X : Ctx} {T : Tab} {a : Act} {w : World} (h : HoldsT X T σ a w) {d : Option Tmp} {v : V} {x : Value} (hx : Rep w (Live X.A T σ.objs) T v x)
    (hd : ∀ t, d = some t → t < σ.n) : HoldsT X T (σ.put d v) (a.put d x) w := by
  cases d with
  | none => exact h
  | some t =>
    have ht := hd t rfl
    refine ⟨h.pre, h.mem, ?_, ?_, h.defers, h.keep, h.fresh, h.avoid0, h.hm, h.hmods⟩
    · intro u q hq
      show Rep w _ T q ((a.tmps.setIfInBounds t x).getD u undef)
      by_cases e : t = u
      · subst e
        rw [show look (σ.put (some t) v).tmps t = some v from look_put _ _ _] at hq
        cases hq
        have : (a.tmps.setIfInBounds t x)[t]? = some x := by simp [h.size, ht]
        rw [getD_of this]
        exact hx
      · rw [show look (σ.put (some t) v).tmps u = look σ.tmps u from look_put_ne _ _ e] at hq
        have : (a.tmps.setIfInBounds t x).getD u undef = a.tmps.getD u undef := by
          simp [Array.getD_eq_getD_getElem?, Array.getElem?_setIfInBounds, e]
        rw [this]
        exact h.tmp u q hq
    · show (a.tmps.setIfInBounds t x).size = σ.n
      simp [h.size]

theorem dstOK_spec {o : Oper} (h : dstOK o σ = true) : ∀ t, o.dst = some t → t < σ.n := by
  intro t ht
  unfold dstOK at h
  rw [ht] at h
  simpa [Nat.blt_eq] using h

theorem qo_quiet {rm : List Nat} {o : Oper} {v : V} {N : St → Prop} (hq : QQ P σ rm o v) (hd : dstOK o σ = true) (h : N (σ.put o.dst v)) : QO P rm o σ N K := by
  intro X T a w hh
  obtain ⟨x, hx, hrun⟩ := hq X T a w hh
  unfold Oper.wp
  rw [hrun w (Stab.refl _ _)]
  exact ⟨T, _, h, hh.put hx (dstOK_spec hd), Stab.refl _ _, fun _ _ hb => by
    cases hod : o.dst with
    | none => rw [hod] at hb; exact hb
    | some t => rw [hod] at hb; exact hb⟩

/-- Is a guarded operation to be done? -/
def wantA (ops : Array Oper) (σ : St) (o : Oper) : Option Bool :=
  match o.guard with
  | none => some true
  | some (j, b) => match (ops[j]?).bind (·.dst) with
    | none => none
    | some t => match look σ.tmps t with
      | some (.sc (.bool x)) => some (x == b)
      | some (.sc (.tuple _)) => some false
      | _ => none

theorem wantA_spec {X : Ctx} {T : Tab} {a : Act} {w : World} (h : HoldsT X T σ a w) {ops : Array Oper} {o : Oper} {b : Bool} (hw : wantA ops σ o = some b) :
    Region.wanted o (yielded ops a.tmps) = b := by
  unfold wantA at hw
  unfold Region.wanted
  split at hw
  · rename_i hg
    cases hw
    rw [hg]
  · rename_i j c hg
    rw [hg]
    simp only
    split at hw
    · cases hw
    · rename_i t ht
      split at hw
      · rename_i y hl
        cases hw
        have hr := rep_sc (h.tmp t _ hl)
        have : a.tmps[t]? = some (.bool y) := by
          rw [Array.getD_eq_getD_getElem?] at hr
          cases he : a.tmps[t]? with
          | none => rw [he] at hr; simp [undef] at hr
          | some z => rw [he] at hr; simp at hr; rw [hr]
        simp [yielded, ht, this]
      · rename_i y hl
        cases hw
        have hr := rep_sc (h.tmp t _ hl)
        rw [Array.getD_eq_getD_getElem?] at hr
        cases he : a.tmps[t]? with
        | none => simp [yielded, ht, he]
        | some z => rw [he] at hr; simp at hr; simp [yielded, ht, he, hr]
      · cases hw

/-- Operations in the order of the text. -/
def QL (P : Program) (ops : Array Oper) (K : Ex → St → Prop) : List Nat → St → Prop
  | [], σ => K .normal σ
  | i :: rest, σ => match ops[i]? with
    | none => QL P ops K rest σ
    | some o => match wantA ops σ o with
      | some true => QO0 P o σ (QL P ops K rest) K
      | some false => dstOK o σ = true ∧ QL P ops K rest (σ.put o.dst (.sc undef))
      | none => False

theorem QL.sound {ops : Array Oper} : ∀ (l : List Nat) (σ : St), QL P ops K l σ → ∀ (X : Ctx) (T : Tab) (a : Act) (w : World), HoldsT X T σ a w → wpOps P ops (Post X K) l a w
  | [], σ, h, X, T, a, w, hh => ⟨T, σ, h, hh⟩
  | i :: rest, σ, h, X, T, a, w, hh => by
    unfold QL at h
    unfold wpOps
    split at h
    · rename_i hi
      simp only [hi]
      exact QL.sound rest σ h X T a w hh
    · rename_i o hi
      simp only [hi]
      split at h
      · rename_i hw
        rw [if_pos (wantA_spec hh hw)]
        exact .inl (Oper.wp_mono (fun a' w' ⟨T', σ', h1, h2⟩ => QL.sound rest σ' h1 X T' a' w' h2) (h X T a w hh))
      · rename_i hw
        rw [if_neg (by rw [wantA_spec hh hw]; simp)]
        exact QL.sound rest _ h.2 X T _ w (hh.put (.pure (.sc _)) (dstOK_spec h.1))
      · exact h.elim

theorem q_region {id : Nat} {ops : Array Oper} (h : QL P ops K (List.range ops.size) σ) : QC P (.region id ops false) σ K :=
  fun X T a w hh => wp_region (QL.sound _ σ h X T a w hh)

theorem HoldsT.congr {X : Ctx} {T : Tab} {a : Act} {w w' : World} (h : HoldsT X T σ a w) (hh : w'.heap = w.heap) (ho : w'.os = w.os) (ht : w'.tape = w.tape) (hout : w'.output = w.output) : HoldsT X T σ a w' := by
  have hrep : ∀ (q : V) (v : Value), Rep w (Live X.A T σ.objs) T q v → Rep w' (Live X.A T σ.objs) T q v := fun q v hr =>
    hr.later (by rw [hh]; exact Nat.le_refl _) (fun b _ _ => by rw [hh]) (fun _ _ h => h) (fun b C t hb => ⟨C, by rw [hh]; exact hb, rfl⟩) (fun _ _ h => h)
  refine ⟨h.pre, ⟨h.mem.len, ?_, h.mem.inj, fun b hb => by rw [hh]; exact h.mem.avoid b hb⟩, fun t v hv => hrep _ _ (h.tmp t v hv), h.size, h.defers,
    ⟨ho.trans h.keep.os, ht.trans h.keep.tape, hout.trans h.keep.output, by rw [hh]; exact h.keep.size, fun b hb hn => by rw [hh]; exact h.keep.block b hb hn, fun b C t hb => by rw [hh]; exact h.keep.shape b C t hb⟩,
    h.fresh, h.avoid0, h.hm, h.hmods⟩
  intro k ob hk
  obtain ⟨b, h1, h2, C, t, h3, h4, h5⟩ := h.mem.obj k ob hk
  refine ⟨b, h1, h2, C, t, by rw [hh]; exact h3, h4, fun r row hr c q hq => ?_⟩
  obtain ⟨v, h6, h7⟩ := h5 r row hr c q hq
  exact ⟨v, h6, hrep _ _ h7⟩

/-! ### Whatever order -/

/-- From here on, whatever order is picked. -/
def QA (P : Program) (ops : Array Oper) (K : Ex → St → Prop) (rm : List Nat) (fuel : Nat) (listed : Array Bool) (σ : St) : Prop :=
  ∀ (X : Ctx) (T : Tab) (a : Act) (w : World), HoldsT X T σ a w → wpAnyH P .any ops (Post X K) (Stab (rmB T σ.objs rm) w) fuel listed a w

theorem wpAnyH_weak {md : Region.Mode} {ops : Array Oper} {Q : Exit → Act → World → Prop} {S S' : World → Prop} (hS : ∀ w, S' w → S w) :
    ∀ (fuel : Nat) (listed : Array Bool) (a : Act) (w : World), wpAnyH P md ops Q S' fuel listed a w → wpAnyH P md ops Q S fuel listed a w
  | 0, _, _, _, h => h
  | fuel + 1, listed, a, w, h => ⟨h.1, fun i hi => wpOp_mono (fun a' w' h' => ⟨hS _ h'.1, wpAnyH_weak hS fuel _ a' w' h'.2⟩) (h.2 i hi)⟩

theorem Post.noFrame {X : Ctx} (d : Option Tmp) (v : Value) (c : List PanicEntry) (a : Act) (w : World) (h : Post X K (.panic c) (a.put d v) w) : Post X K (.panic c) a w := by
  obtain ⟨h0, rest⟩ := h
  exact ⟨by cases d <;> exact h0, rest⟩

theorem put_objs (σ : St) (d : Option Tmp) (v : V) : (σ.put d v).objs = σ.objs := by cases d <;> rfl

theorem qa_take {ops : Array Oper} {rm : List Nat} {fuel : Nat} {listed : Array Bool} {i : Nat} {o : Oper} {v : V} (hi : ops[i]? = some o) (hs : Region.noSelect ops = true)
    (hf : Region.free .any ops listed i = true) (hr : (Region.ready .any ops listed).contains i = true)
    (hq : (wantA ops σ o = some true ∧ QQ P σ rm o v) ∨ (wantA ops σ o = some false ∧ v = .sc undef)) (hd : dstOK o σ = true)
    (h : QA P ops K rm fuel (listed.setIfInBounds i true) (σ.put o.dst v)) : QA P ops K rm (fuel + 1) listed σ := by
  intro X T a w hh
  rcases hq with ⟨hw, hq⟩ | ⟨hw, rfl⟩
  · obtain ⟨x, hx, hrun⟩ := hq X T a w hh
    refine wpAnyH_take hi hs hf hr (fun c a w hp => Post.noFrame _ _ _ _ _ hp) (v := x) (.inl ⟨wantA_spec hh hw, fun w' hw' => hrun w' hw'⟩) (Stab.refl _ _) ?_
    have := h X T _ w (hh.put hx (dstOK_spec hd))
    rwa [put_objs] at this
  · refine wpAnyH_take hi hs hf hr (fun c a w hp => Post.noFrame _ _ _ _ _ hp) (v := undef) (.inr ⟨wantA_spec hh hw, rfl⟩) (Stab.refl _ _) ?_
    have := h X T _ w (hh.put (v := .sc undef) (.pure (.sc _)) (dstOK_spec hd))
    rwa [put_objs] at this

theorem qa_all {ops : Array Oper} {rm : List Nat} {fuel : Nat} {listed : Array Bool} {rs : List Nat} (hr : Region.ready .any ops listed = rs) (hne : rs ≠ [])
    (h : ∀ i ∈ rs, ∃ o, ops[i]? = some o ∧ wantA ops σ o = some true ∧ QO P rm o σ (QA P ops K rm fuel (listed.setIfInBounds i true)) K) : QA P ops K rm (fuel + 1) listed σ := by
  intro X T a w hh
  refine wpAnyH_all hr hne fun i hi => ?_
  obtain ⟨o, ho, hw, hq⟩ := h i hi
  unfold wpOp
  rw [ho]
  simp only
  rw [if_pos (wantA_spec hh hw)]
  refine .inl (Oper.wp_mono (fun a' w' ⟨T', σ', h1, h2, h3, h4⟩ => ⟨h3, ?_⟩) (hq X T a w hh))
  refine wpAnyH_weak (fun w'' hst => ?_) _ _ _ _ (h1 X T' a' w' h2)
  refine ⟨Nat.le_trans h3.1 hst.1, fun b hb hn => ?_⟩
  rw [hst.2 b (Nat.lt_of_lt_of_le hb h3.1) (fun hx => hn (h4 b hb hx)), h3.2 b hb hn]

theorem qa_one {ops : Array Oper} {rm : List Nat} {fuel : Nat} {listed : Array Bool} {i : Nat} {o : Oper} (hr : Region.ready .any ops listed = [i]) (hi : ops[i]? = some o)
    (hw : wantA ops σ o = some true) (h : QO P rm o σ (QA P ops K rm fuel (listed.setIfInBounds i true)) K) : QA P ops K rm (fuel + 1) listed σ :=
  qa_all hr (by simp) (fun j hj => by simp at hj; subst hj; exact ⟨o, hi, hw, h⟩)

theorem qa_done {ops : Array Oper} {rm : List Nat} {fuel : Nat} {listed : Array Bool} (hr : Region.ready .any ops listed = []) (h : K .normal σ) : QA P ops K rm fuel listed σ :=
  fun X T a w hh => wpAnyH_done hr ⟨T, σ, h, hh⟩ fuel

theorem q_region_draw {id : Nat} {ops : Array Oper} (rm : List Nat) (hm : P.follows .mixedOrders = true) (h : QA P ops K rm ops.size (Array.replicate ops.size false) σ) : QC P (.region id ops true) σ K :=
  fun X T a w hh => wp_region_held hm (h X T a _ (hh.congr rfl rfl rfl rfl))

end Go.Proofs.Ytohchoelhnipmaa.Q
