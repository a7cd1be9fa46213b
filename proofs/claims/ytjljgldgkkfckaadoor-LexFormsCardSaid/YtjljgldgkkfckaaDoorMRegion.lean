/- Regions whose order is drawn. -/
import Derived.Test.YtjljgldgkkfckaaDoorMCall
namespace Go.Proofs.YtjljgldgkkfckaaDoor.M
open Go Go.RowKit
set_option linter.unusedSimpArgs false
set_option linter.unusedVariables false

section
variable {P : Program} {ops : Array Oper} {Q : Exit → Act → World → Prop}

/-- Whatever order is picked; behind every operation S holds, said of what has come up. -/
def wpAnyS (P : Program) (ops : Array Oper) (Q : Exit → Act → World → Prop) (S : Array Bool → World → Prop) : Nat → Array Bool → Act → World → Prop
  | 0, listed, a, w => Region.ready .any ops listed = [] ∧ Q .normal a w
  | fuel + 1, listed, a, w =>
    (Region.ready .any ops listed = [] → Q .normal a w) ∧
    ∀ i ∈ Region.ready .any ops listed, wpOp P ops Q i (fun a' w' => S (listed.setIfInBounds i true) w' ∧ wpAnyS P ops Q S fuel (listed.setIfInBounds i true) a' w') a w

theorem wpAny_of_S {S : Array Bool → World → Prop} : ∀ (fuel : Nat) (listed : Array Bool) (a : Act) (w : World), wpAnyS P ops Q S fuel listed a w → wpAny P .any ops Q fuel listed a w
  | 0, _, _, _, h => h
  | fuel + 1, _, _, _, h => ⟨h.1, fun i hi => wpOp_mono (fun a' w' h' => wpAny_of_S fuel _ a' w' h'.2) (h.2 i hi)⟩

theorem wpAnyS_weak {S S' : Array Bool → World → Prop} (hS : ∀ L w, S' L w → S L w) : ∀ (fuel : Nat) (listed : Array Bool) (a : Act) (w : World), wpAnyS P ops Q S' fuel listed a w → wpAnyS P ops Q S fuel listed a w
  | 0, _, _, _, h => h
  | fuel + 1, _, _, _, h => ⟨h.1, fun i hi => wpOp_mono (fun a' w' h' => ⟨hS _ _ h'.1, wpAnyS_weak hS fuel _ a' w' h'.2⟩) (h.2 i hi)⟩

/-- j comes behind i, whatever order is picked. -/
inductive Dep (ops : Array Oper) : Nat → Nat → Prop
  | one {j : Nat} {o : Oper} {e : Edge} (h : ops[j]? = some o) (he : e ∈ o.after) (hb : Region.binds .any e = true) : Dep ops j e.on
  | more {j i : Nat} {o : Oper} {e : Edge} (h : ops[j]? = some o) (he : e ∈ o.after) (hb : Region.binds .any e = true) (hd : Dep ops e.on i) : Dep ops j i

/-- What has come up has all come up ahead of which it waits. -/
def Closed (ops : Array Oper) (L : Array Bool) : Prop := ∀ (j : Nat) (o : Oper), L.getD j false = true → ops[j]? = some o → ∀ e ∈ o.after, Region.binds .any e = true → L.getD e.on false = true

theorem Closed.dep {L : Array Bool} (h : Closed ops L) {j i : Nat} (hd : Dep ops j i) : L.getD j false = true → L.getD i false = true := by
  induction hd with
  | one h1 he hb => exact fun hj => h _ _ hj h1 _ he hb
  | more h1 he hb _ ih => exact fun hj => ih (h _ _ hj h1 _ he hb)

theorem un_listed {L : Array Bool} {i : Nat} (h : L.getD i true = false) : L.getD i false ≠ true := by
  intro h2
  rcases Nat.lt_or_ge i L.size with g | g
  · simp [g] at h h2
    rw [h] at h2
    cases h2
  · simp [Array.getElem?_eq_none g] at h2

theorem Closed.set {L : Array Bool} (h : Closed ops L) {j : Nat} (hj : j ∈ Region.ready .any ops L) : Closed ops (L.setIfInBounds j true) := by
  intro k o hk ho e he hb
  by_cases g : k = j
  · subst g
    obtain ⟨_, o', ho', hall⟩ := mem_ready.1 hj
    rw [ho] at ho'
    cases ho'
    exact getD_set_true (hall e he hb)
  · rw [getD_set_ne false (Ne.symm g)] at hk
    exact getD_set_true (h k o hk ho e he hb)

/-- An operation that may come up now may be taken first, if it yields its value wherever it may come up. -/
theorem wpAnyS_first {i : Nat} {oi : Oper} {v : Value} (hi : ops[i]? = some oi) (hsel : ∀ (j : Nat) (o : Oper) cs b, ops[j]? = some o → o.op ≠ .select cs b)
    (hQ : ∀ c a w, Q (.panic c) (a.put oi.dst v) w → Q (.panic c) a w) {S1 S2 : Array Bool → World → Prop} (h12 : ∀ L w, S2 L w → S1 L w) (h21 : ∀ L w, S2 (L.setIfInBounds i true) w → S1 L w) :
    ∀ (fuel : Nat) (listed : Array Bool) (a : Act) (w : World),
      (∀ j oj, ops[j]? = some oj → j ≠ i → listed.getD j true = false → (∀ e ∈ oj.after, Region.binds .any e = true → e.on ≠ i) → oi.apart ops oj = true) →
      i ∈ Region.ready .any ops listed → Closed ops listed →
      YieldsIf P ops (fun w' => ∃ L, Closed ops L ∧ L.getD i true = false ∧ S2 (L.setIfInBounds i true) w') oi v a → S2 (listed.setIfInBounds i true) w →
      wpAnyS P ops Q S2 fuel (listed.setIfInBounds i true) (a.put oi.dst v) w → wpAnyS P ops Q S1 (fuel + 1) listed a w := by
  intro fuel
  induction fuel with
  | zero =>
    intro listed a w _ hr hcl hy hS H
    refine ⟨fun h => (by rw [h] at hr; cases hr), fun j hj => ?_⟩
    by_cases hji : j = i
    · subst hji
      exact hy.wpOp hi ⟨listed, hcl, (mem_ready.1 hr).1, hS⟩ ⟨h12 _ _ hS, wpAnyS_weak h12 _ _ _ _ H⟩
    · have := ready_mono hj hji
      rw [H.1] at this
      cases this
  | succ fuel ih =>
    intro listed a w hfree hr hcl hy hS H
    refine ⟨fun h => (by rw [h] at hr; cases hr), fun j hj => ?_⟩
    by_cases hji : j = i
    · subst hji
      exact hy.wpOp hi ⟨listed, hcl, (mem_ready.1 hr).1, hS⟩ ⟨h12 _ _ hS, wpAnyS_weak h12 _ _ _ _ H⟩
    · have h1 := H.2 j (ready_mono hj hji)
      obtain ⟨hjun, oj, hoj, hall⟩ := mem_ready.1 hj
      have hnot : ∀ e ∈ oj.after, Region.binds .any e = true → e.on ≠ i := fun e he hb heq => by
        have h1 := hall e he hb
        rw [heq] at h1
        exact un_listed (mem_ready.1 hr).1 h1
      have h2 := wpOp_putIf hoj (hfree j oj hoj hji hjun hnot) (fun cs b => hsel i oi cs b hi) (fun cs b => hsel j oj cs b hoj) hQ hy h1
      have hfree' : ∀ k ok, ops[k]? = some ok → k ≠ i → (listed.setIfInBounds j true).getD k true = false →
          (∀ e ∈ ok.after, Region.binds .any e = true → e.on ≠ i) → oi.apart ops ok = true := fun k ok hk hki hun hno => by
        refine hfree k ok hk hki ?_ hno
        by_cases hjk : j = k
        · subst hjk; exact hjun
        · rw [getD_set_ne true hjk] at hun; exact hun
      refine wpOp_mono (fun a' w' h3 => ?_) h2
      obtain ⟨h4, h5, h6⟩ := h3
      rw [Array.setIfInBounds_comm _ _ (Ne.symm hji)] at h5 h6
      exact ⟨h21 _ _ h5, ih (listed.setIfInBounds j true) a' w' hfree' (ready_mono hr (Ne.symm hji)) (hcl.set hj) h4 h5 h6⟩

end

variable {ρ : Nat → Value} {P : Program} {σ : St} {K : Ex → St → Prop} {ops : Array Oper} {loud : Nat → Bool}

/-- What is let alone: what nobody owns; what was read ahead, and may in truth be read yet. -/
def SI (ops : Array Oper) (loud : Nat → Bool) (D : Nat → Prop) (T : Tab) (objs : Objs) (w : World) (Hs : List (Nat × CellP)) (L : Array Bool) (w' : World) : Prop :=
  w.heap.size ≤ w'.heap.size ∧ (∀ b, b < w.heap.size → ¬ D b → ¬ LiveO T objs b → w'.heap[b]? = w.heap[b]?) ∧
    ∀ s C, (s, C) ∈ Hs → (∀ j, L.getD j false = true → loud j = true → ¬ Dep ops j s) → SameC T objs C w w'

theorem SI.here {D : Nat → Prop} {T : Tab} {objs : Objs} {w : World} {Hs : List (Nat × CellP)} {L : Array Bool} : SI ops loud D T objs w Hs L w := ⟨Nat.le_refl _, fun _ _ _ _ => rfl, fun _ _ _ _ => SameC.refl _ _ _ _⟩

/-- From here on, whatever order is picked. -/
def QA (ρ : Nat → Value) (P : Program) (ops : Array Oper) (loud : Nat → Bool) (K : Ex → St → Prop) (fuel : Nat) (L : Array Bool) (Hs : List (Nat × CellP)) (σ : St) : Prop :=
  ∀ (X : Ctx) (T : Tab) (a : Act) (w : World), HoldsT ρ X T σ a w → wpAnyS P ops (Post ρ X K) (SI ops loud X.A T σ.objs w Hs) fuel L a w

theorem q_region_draw {id : Nat} (hm : P.follows .mixedOrders = true) (h : QA ρ P ops loud K ops.size (Array.replicate ops.size false) [] σ) : QC ρ P (.region id ops true) σ K :=
  fun X T a w hh => wp_region_any hm (wpAny_of_S _ _ _ _ (h X T a _ (hh.congr rfl rfl rfl rfl)))

theorem Post.noFrame {X : Ctx} (d : Option Tmp) (v : Value) (hd : ∀ t, d = some t → X.ks t = false) (c : List PanicEntry) (a : Act) (w : World) (h : Post ρ X K (.panic c) (a.put d v) w) : Post ρ X K (.panic c) a w := by
  obtain ⟨T, σ, q, x, h1, h2, h3, h4⟩ := h
  refine ⟨T, σ, q, x, h1, h2, h3, ?_⟩
  cases d with
  | none => exact h4
  | some t =>
    have hks := hd t rfl
    refine ⟨h4.pre, h4.mem, h4.top, fun u => ?_, ?_, h4.defers, h4.keep, h4.fresh, h4.old, h4.stay, h4.pc, h4.hforb, h4.hks⟩
    · have h5 := h4.tmp u
      by_cases e : u = t
      · subst e
        have : σ.keepS.tmps u = .un := by
          show (match σ.ks u with | true => σ.tmps u | false => .un) = .un
          have := h4.hks
          rw [show σ.ks = X.ks from this.symm, hks]
        rw [this]
        exact rep_un
      · have : (a.put (some t) v).tmps.getD u undef = a.tmps.getD u undef := by
          simp [Act.put, Array.getD_eq_getD_getElem?, Array.getElem?_setIfInBounds, Ne.symm e]
        rw [this] at h5
        exact h5
    · have := h4.size
      simpa [Act.put] using this

/-- One that only looks is taken first. -/
theorem take_at {fuel : Nat} {L : Array Bool} {Hs : List (Nat × CellP)} {i : Nat} {o : Oper} {v : V} {C : CellP} (hi : ops[i]? = some o) (hs : Region.noSelect ops = true) (hl : loud i = false)
    (hf : Region.free .any ops L i = true) (hr : i ∈ Region.ready .any ops L) (hcl : Closed ops L)
    (hq : (wantV ops σ o = some true ∧ QQ ρ P σ C o v) ∨ (wantV ops σ o = some false ∧ v = .sc undef)) (hks : ∀ t, o.dst = some t → σ.ks t = false)
    {X Y : Ctx} (hX : X.ks = Y.ks) {T : Tab} {a : Act} {w : World} (hh : HoldsT ρ Y T σ a w)
    (h : ∀ x, Rep ρ w (Live Y.A T σ.objs) T v x → wpAnyS P ops (Post ρ X K) (SI ops loud Y.A T σ.objs w ((i, C) :: Hs)) fuel (L.setIfInBounds i true) (a.put o.dst x) w) :
    wpAnyS P ops (Post ρ X K) (SI ops loud Y.A T σ.objs w Hs) (fuel + 1) L a w := by
  have hy : ∃ x, Rep ρ w (Live Y.A T σ.objs) T v x ∧ YieldsIf P ops (fun w' => ∃ L', Closed ops L' ∧ L'.getD i true = false ∧ SI ops loud Y.A T σ.objs w ((i, C) :: Hs) (L'.setIfInBounds i true) w') o x a := by
    rcases hq with ⟨hw, hq⟩ | ⟨hw, rfl⟩
    · obtain ⟨x, hx, hrun⟩ := hq Y T a w hh
      refine ⟨x, hx, .inl ⟨wantV_spec hh hw, ?_⟩⟩
      rintro w' ⟨L', hc, hu, hsz, hp, hcell⟩
      refine hrun w' ⟨hsz, fun b hb hn => hp b hb (fun g => hn (.inl g)) (fun g => hn (.inr g))⟩ (hcell i C List.mem_cons_self fun j hj hlj hdep => ?_)
      by_cases e : j = i
      · subst e; rw [hl] at hlj; cases hlj
      · rw [getD_set_ne false (Ne.symm e)] at hj
        exact un_listed hu (hc.dep hdep hj)
    · exact ⟨undef, .pure (.sc _), .inr ⟨wantV_spec hh hw, rfl⟩⟩
  obtain ⟨x, hx, hy⟩ := hy
  have hnext := h x hx
  have w12 : ∀ (L' : Array Bool) (w' : World), SI ops loud Y.A T σ.objs w ((i, C) :: Hs) L' w' → SI ops loud Y.A T σ.objs w Hs L' w' := by
    rintro L' w' ⟨h1, h2, h3⟩
    exact ⟨h1, h2, fun s C' hsC hd => h3 s C' (List.mem_cons_of_mem _ hsC) hd⟩
  have w21 : ∀ (L' : Array Bool) (w' : World), SI ops loud Y.A T σ.objs w ((i, C) :: Hs) (L'.setIfInBounds i true) w' → SI ops loud Y.A T σ.objs w Hs L' w' := by
    rintro L' w' ⟨h1, h2, h3⟩
    refine ⟨h1, h2, fun s C' hsC hd => h3 s C' (List.mem_cons_of_mem _ hsC) fun j hj hlj => hd j ?_ hlj⟩
    by_cases e : j = i
    · subst e; rw [hl] at hlj; cases hlj
    · rw [getD_set_ne false (Ne.symm e)] at hj
      exact hj
  exact wpAnyS_first hi (Region.noSelect_spec hs) (fun c a w hp => Post.noFrame _ _ (fun t ht => by rw [hX, hh.hks]; exact hks t ht) _ _ _ hp) w12 w21
    fuel L a w (Region.free_spec hi hf) hr hcl hy SI.here hnext

theorem qa_take {fuel : Nat} {L : Array Bool} {Hs : List (Nat × CellP)} {i : Nat} {o : Oper} {v : V} {C : CellP} (hi : ops[i]? = some o) (hs : Region.noSelect ops = true) (hl : loud i = false)
    (hf : Region.free .any ops L i = true) (hr : i ∈ Region.ready .any ops L) (hcl : Closed ops L)
    (hq : (wantV ops σ o = some true ∧ QQ ρ P σ C o v) ∨ (wantV ops σ o = some false ∧ v = .sc undef)) (hd : dstOK o σ) (hks : ∀ t, o.dst = some t → σ.ks t = false)
    (h : QA ρ P ops loud K fuel (L.setIfInBounds i true) ((i, C) :: Hs) (σ.put o.dst v)) : QA ρ P ops loud K (fuel + 1) L Hs σ := by
  intro X T a w hh
  refine take_at hi hs hl hf hr hcl hq hks rfl hh fun x hx => ?_
  have hnext := h X T _ w (hh.put hx hd)
  rwa [put_objs] at hnext

/-- What is let alone by one operation. -/
theorem si_step {L' : Array Bool} {Hs Hs' : List (Nat × CellP)} {u : Nat} {C : CellP} (hl : loud u = true) (hH : ∀ s P, (s, P) ∈ Hs → (s, P) ∈ Hs' ∨ Dep ops u s) (hC : ∀ s P, (s, P) ∈ Hs' → ∀ k r c, P k r c → C k r c)
    {T T' : Tab} {objs objs' : Objs} {w w' w2 : World} {D : Nat → Prop} (h3 : StepT C T objs w T' objs' w') (hL' : L'.getD u false = true) (h : SI ops loud D T' objs' w' Hs' L' w2) : SI ops loud D T objs w Hs L' w2 := by
  obtain ⟨h1, h2, h4⟩ := h
  refine ⟨Nat.le_trans h3.stab.1 h1, fun b hb hD hn => ?_, fun s Q hs hd => ?_⟩
  · rw [h2 b (Nat.lt_of_lt_of_le hb h3.stab.1) hD (fun hlv => hn (h3.live b hb hlv)), h3.stab.2 b hb hn]
  · rcases hH s Q hs with g | g
    · exact (h3.cells.mono (hC s Q g)).trans' (fun _ _ _ h => h) (fun k r c hk hne => h3.stay k r c (hC s Q g k r c hk) hne) h3.ext (h4 s Q g hd)
    · exact (hd u hL' hl g).elim

/-- What is asked from now on says more. -/
theorem weak_step {Hs Hs' : List (Nat × CellP)} {u : Nat} {C : CellP} (hl : loud u = true) (hH : ∀ s P, (s, P) ∈ Hs → (s, P) ∈ Hs' ∨ Dep ops u s) (hC : ∀ s P, (s, P) ∈ Hs' → ∀ k r c, P k r c → C k r c)
    {T T' : Tab} {objs objs' : Objs} {w w' : World} {D : Nat → Prop} {Q : Exit → Act → World → Prop} (h3 : StepT C T objs w T' objs' w') :
    ∀ (fuel : Nat) (L' : Array Bool) (a' : Act) (w1 : World), L'.getD u false = true → wpAnyS P ops Q (SI ops loud D T' objs' w' Hs') fuel L' a' w1 → wpAnyS P ops Q (SI ops loud D T objs w Hs) fuel L' a' w1
  | 0, _, _, _, _, hx => hx
  | fuel + 1, L', a', w1, hL', hx => by
    refine ⟨hx.1, fun j hj => wpOp_mono (fun a2 w2 hy => ?_) (hx.2 j hj)⟩
    have hL2 : (L'.setIfInBounds j true).getD u false = true := getD_set_true hL'
    exact ⟨si_step hl hH hC h3 hL2 hy.1, weak_step hl hH hC h3 fuel _ _ _ hL2 hy.2⟩

/-- What one operation, wanted or not, is to bring about. -/
def Brings (ρ : Nat → Value) (P : Program) (ops : Array Oper) (K : Ex → St → Prop) (u : Nat) (C : CellP) (N : St → Prop) (σ : St) : Prop :=
  ∀ (X : Ctx) (T : Tab) (a : Act) (w : World), HoldsT ρ X T σ a w → wpOp P ops (Post ρ X K) u (fun a' w' => ∃ T' σ', N σ' ∧ HoldsT ρ X T' σ' a' w' ∧ StepT C T σ.objs w T' σ'.objs w') a w

theorem brings_do {u : Nat} {o : Oper} {C : CellP} {N : St → Prop} (hu : ops[u]? = some o) (hw : wantV ops σ o = some true) (h : QO ρ P C o σ N K) : Brings ρ P ops K u C N σ := by
  intro X T a w hh
  unfold wpOp
  rw [hu]
  simp only
  rw [if_pos (wantV_spec hh hw)]
  exact .inl (h X T a w hh)

theorem brings_skip {u : Nat} {o : Oper} {C : CellP} {N : St → Prop} (hu : ops[u]? = some o) (hw : wantV ops σ o = some false) (hd : dstOK o σ) (h : N (σ.put o.dst (.sc undef))) : Brings ρ P ops K u C N σ := by
  intro X T a w hh
  unfold wpOp
  rw [hu]
  simp only
  rw [if_neg (by rw [wantV_spec hh hw]; simp)]
  refine ⟨T, _, h, hh.put (.pure (.sc _)) hd, ?_⟩
  rw [put_objs]
  exact StepT.refl _ _ _ _

/-- The one that must come up now. -/
theorem qa_loud {fuel : Nat} {L : Array Bool} {Hs Hs' : List (Nat × CellP)} {u : Nat} {C : CellP} (hr : Region.ready .any ops L = [u]) (hl : loud u = true)
    (hH : ∀ s P, (s, P) ∈ Hs → (s, P) ∈ Hs' ∨ Dep ops u s) (hC : ∀ s P, (s, P) ∈ Hs' → ∀ k r c, P k r c → C k r c)
    (h : Brings ρ P ops K u C (QA ρ P ops loud K fuel (L.setIfInBounds u true) Hs') σ) : QA ρ P ops loud K (fuel + 1) L Hs σ := by
  intro X T a w hh
  refine ⟨fun h0 => (by rw [h0] at hr; cases hr), fun i hi => ?_⟩
  have hlen := (mem_ready.1 hi).1
  rw [hr, List.mem_singleton] at hi
  subst hi
  refine wpOp_mono (fun a' w' ⟨T', σ', h1, h2, h3⟩ => ?_) (h X T a w hh)
  have hlt : i < L.size := by
    rcases Nat.lt_or_ge i L.size with g | g
    · exact g
    · simp [Array.getElem?_eq_none g] at hlen
  have hset : (L.setIfInBounds i true).getD i false = true := by simp [hlt]
  exact ⟨si_step hl hH hC h3 hset SI.here, weak_step hl hH hC h3 _ _ _ _ hset (h1 X T' a' w' h2)⟩

theorem qa_done {fuel : Nat} {L : Array Bool} {Hs : List (Nat × CellP)} (hr : Region.ready .any ops L = []) (h : K .normal σ) : QA ρ P ops loud K fuel L Hs σ := by
  intro X T a w hh
  cases fuel with
  | zero => exact ⟨hr, T, σ, h, hh⟩
  | succ fuel => exact ⟨fun _ => ⟨T, σ, h, hh⟩, by rw [hr]; simp⟩

end Go.Proofs.YtjljgldgkkfckaaDoor.M
