/- Regions whose order is drawn, in which objects of noughts are made beside other work. -/
import Derived.Test.YtjljgldgkkfckaaDoorMRegion
namespace Go.Proofs.YtjljgldgkkfckaaDoor.M
open Go Go.RowKit
set_option linter.unusedSimpArgs false
set_option linter.unusedVariables false

variable {ρ : Nat → Value} {P : Program} {σ : St} {K : Ex → St → Prop} {ops : Array Oper} {loud : Nat → Bool}

/-- What an operation that makes an object of noughts makes: its slot, what it yields by the block, the cells, the object, the value by its number. -/
structure Born where
  d : Nat
  val : Nat → Value
  cs : Array Value
  el : TypeId
  ob : Ob
  v : Nat → V

/-- It makes just that, whenever it comes up. -/
def BornOK (ρ : Nat → Value) (P : Program) (σ : St) (o : Oper) (B : Born) : Prop :=
  ∀ (X : Ctx) (T : Tab) (a : Act) (w : World), HoldsT ρ X T σ a w → ∀ w', (execOp a.eval o).run P w' = .ok (.value (B.val w'.heap.size)) (more w' (.cells B.cs B.el (0, 0)))

structure BornRep (ρ : Nat → Value) (B : Born) : Prop where
  rows : ∀ (r : Nat) (row : List V), B.ob.row r = some row → row.length = B.ob.s ∧ (∀ q ∈ row, q.one = true) ∧ ∀ (c : Nat) (q : V), row[c]? = some q → ∃ v, B.cs[r * B.ob.s + c]? = some v ∧ ∀ (w : World) (L : Nat → Prop) (T : Tab), Rep ρ w L T q v
  rep : ∀ (w : World) (L : Nat → Prop) (T : Tab) (k b : Nat), T k = some ⟨b, 0, B.ob.s⟩ → w.heap[b]? = some (.cells B.cs B.el (0, 0)) → Rep ρ w L T (B.v k) (B.val b)

/-- It has come up, though nobody speaks of it yet. -/
def Early (T : Tab) (w : World) (a : Act) (B : Born) (b : Nat) : Prop :=
  a.tmps.getD B.d undef = B.val b ∧ w.heap[b]? = some (.cells B.cs B.el (0, 0)) ∧ ∀ (k : Nat) (p : Pl), T k = some p → p.b ≠ b

/-- An operation leaves all slots alone but its own. -/
theorem wpOp_frame {Q : Exit → Act → World → Prop} {i : Nat} {Kn : Act → World → Prop} {a : Act} {w : World} (h : wpOp P ops Q i Kn a w) :
    wpOp P ops Q i (fun a' w' => Kn a' w' ∧ ∀ d, (∀ o, ops[i]? = some o → o.dst ≠ some d) → a'.tmps.getD d undef = a.tmps.getD d undef) a w := by
  have put : ∀ (o : Oper), ops[i]? = some o → ∀ (b : Act) (u : Value), b.tmps = a.tmps → ∀ d, (∀ o, ops[i]? = some o → o.dst ≠ some d) → (b.put o.dst u).tmps.getD d undef = a.tmps.getD d undef := by
    intro o ho b u hb d hd
    have hne := hd o ho
    unfold Act.put
    cases hx : o.dst with
    | none => simp only; rw [hb]
    | some t =>
      have : t ≠ d := fun e => hne (by rw [hx, e])
      show (b.tmps.setIfInBounds t u).getD d undef = _
      rw [hb]
      simp [Array.getD_eq_getD_getElem?, Array.getElem?_setIfInBounds, this]
  unfold wpOp at *
  cases ho : ops[i]? with
  | none =>
    simp only [ho] at h ⊢
    exact ⟨h, fun d _ => trivial⟩
  | some o =>
    simp only [ho] at h put ⊢
    split
    · rename_i hw
      simp only [hw, if_true] at h
      refine h.imp (fun h => ?_) id
      unfold Oper.wp at *
      generalize (execOp a.eval o).run P w = r at *
      cases r with
      | ok n w' =>
        cases n <;> simp only [Oper.upon] at h ⊢
        case value u => exact ⟨h, put o rfl a _ rfl⟩
        case skip => exact ⟨h, put o rfl a undef rfl⟩
        case defer d => exact ⟨h, put o rfl _ undef rfl⟩
        case enter f args =>
          refine Calls.mono h fun e w'' he => ?_
          cases e with
          | returned u => exact ⟨he, put o rfl a u rfl⟩
          | panicked c => exact he
          | outgrown => exact he
        case row row args => exact Rows.mono h fun u w'' he => ⟨he, put o rfl a u rfl⟩
      | halt x w' =>
        cases x <;> simp only [Oper.upon] at h ⊢
        case panic u => exact h
    · rename_i hw
      simp only [hw] at h
      exact ⟨h, put o rfl a undef rfl⟩

/-- What has come up besides. -/
def listE (L : Array Bool) : List Nat → Array Bool
  | [] => L
  | g :: E => (listE L E).setIfInBounds g true

theorem listE_size (L : Array Bool) : ∀ E, (listE L E).size = L.size
  | [] => rfl
  | g :: E => by simp [listE, listE_size L E]

theorem listE_get (L : Array Bool) (j : Nat) (d : Bool) : ∀ E, (listE L E).getD j d = if j ∈ E ∧ j < L.size then true else L.getD j d
  | [] => by simp [listE]
  | g :: E => by
    simp only [listE]
    by_cases e : g = j
    · subst e
      by_cases h : g < L.size
      · rw [if_pos ⟨by simp, h⟩]
        simp [Array.getD_eq_getD_getElem?, listE_size, h]
      · rw [if_neg (fun x => h x.2)]
        have : (listE L E).setIfInBounds g true = listE L E := by
          apply Array.ext_getElem?
          intro i
          rw [Array.getElem?_setIfInBounds]
          by_cases e2 : g = i
          · subst e2
            rw [if_pos rfl, if_neg (by rw [listE_size]; exact h), Array.getElem?_eq_none (by rw [listE_size]; omega)]
          · rw [if_neg e2]
        rw [this, listE_get L g d E, if_neg (fun x => h x.2)]
    · have := getD_set_ne (listed := listE L E) d e
      rw [this, listE_get L j d E]
      congr 1
      simp [Ne.symm e]

theorem listE_set (L : Array Bool) (i : Nat) : ∀ E, i ∉ E → listE (L.setIfInBounds i true) E = (listE L E).setIfInBounds i true
  | [], _ => rfl
  | g :: E, h => by
    simp only [List.mem_cons, not_or] at h
    simp only [listE]
    rw [listE_set L i E h.2, Array.setIfInBounds_comm _ _ h.1]

theorem ready_listE {L : Array Bool} {i : Nat} {E : List Nat} (hi : i ∈ Region.ready .any ops L) (hE : i ∉ E) : i ∈ Region.ready .any ops (listE L E) := by
  induction E with
  | nil => exact hi
  | cons g E ih =>
    simp only [List.mem_cons, not_or] at hE
    exact ready_mono (ih hE.2) hE.1

theorem free_listE {L : Array Bool} {i : Nat} {E : List Nat} (h : Region.free .any ops L i = true) : Region.free .any ops (listE L E) i = true := by
  unfold Region.free at *
  cases hi : ops[i]? with
  | none => rw [hi] at h; exact h
  | some o =>
    rw [hi] at h
    simp only [List.all_eq_true, List.mem_range] at h ⊢
    intro j hj
    have := h j hj
    simp only [Bool.or_eq_true] at this ⊢
    rcases this with (h1 | h1) | h1
    · exact .inl (.inl h1)
    · refine .inl (.inr ?_)
      rw [listE_get]
      split
      · rfl
      · exact h1
    · exact .inr h1

/-- Blocks more that belong to somebody else. -/
def Ctx.withA (X : Ctx) (S : Nat → Prop) : Ctx := { X with A := fun b => X.A b ∨ S b }

theorem HoldsT.unA {X : Ctx} {S : Nat → Prop} {T : Tab} {a : Act} {w : World} (h : HoldsT ρ (X.withA S) T σ a w) : HoldsT ρ X T σ a w := by
  have hrep : ∀ (q : V) (v : Value), Rep ρ w (Live (X.withA S).A T σ.objs) T q v → Rep ρ w (Live X.A T σ.objs) T q v :=
    fun q v hq => hq.congr fun b hl => hl.imp (fun g => .inl g) id
  refine ⟨h.pre, ⟨fun b hb => h.mem.avoid b (.inl hb), h.mem.low, fun k ob hk => ?_, h.mem.inj, h.mem.glob.congr fun b hl => hl.imp (fun g => .inl g) id⟩, h.top, fun t => hrep _ _ (h.tmp t), h.size, h.defers.map hrep, h.keep, h.fresh, h.old, h.stay, h.pc, h.hforb, h.hks⟩
  obtain ⟨p, h1, hA, h2, C, t, h3, h4⟩ := h.mem.obj k ob hk
  refine ⟨p, h1, fun g => hA (.inl g), h2, C, t, h3, fun r row hr => ?_⟩
  obtain ⟨g1, g2, g3⟩ := h4 r row hr
  refine ⟨g1, g2, fun c q hq => ?_⟩
  obtain ⟨v, h6, h7⟩ := g3 c q hq
  exact ⟨v, h6, hrep _ _ h7⟩

theorem Post.unA {X : Ctx} {S : Nat → Prop} (e : Exit) (a : Act) (w : World) (h : Post ρ (X.withA S) K e a w) : Post ρ X K e a w := by
  cases e with
  | normal => obtain ⟨T, σ, h1, h2⟩ := h; exact ⟨T, σ, h1, h2.unA⟩
  | exit id => obtain ⟨T, σ, h1, h2⟩ := h; exact ⟨T, σ, h1, h2.unA⟩
  | ret => obtain ⟨T, σ, h1, h2⟩ := h; exact ⟨T, σ, h1, h2.unA⟩
  | panic c =>
    obtain ⟨T, σ, v, x, h1, h2, h3, h4⟩ := h
    exact ⟨T, σ, v, x, h1, h2, h3.congr fun b hl => hl.imp (fun g => .inl g) id, h4.unA⟩
  | goto l => exact h
  | outgrown => exact h

theorem wpOp_monoQ {Q Q' : Exit → Act → World → Prop} (hq : ∀ e a w, Q e a w → Q' e a w) {i : Nat} {Kn : Act → World → Prop} {a : Act} {w : World} (h : wpOp P ops Q i Kn a w) : wpOp P ops Q' i Kn a w := by
  unfold wpOp at *
  cases ho : ops[i]? with
  | none => simp only [ho] at h ⊢; exact h
  | some o =>
    simp only [ho] at h ⊢
    split
    · rename_i hw
      simp only [hw, if_true] at h
      refine h.imp (fun h => ?_) (fun h => ⟨h.1, by obtain ⟨a0, w0, h2⟩ := h.2; exact ⟨a0, w0, hq _ _ _ h2⟩⟩)
      unfold Oper.wp at *
      generalize (execOp a.eval o).run P w = r at *
      cases r with
      | ok n w' =>
        cases n <;> simp only [Oper.upon] at h ⊢ <;> first
          | exact h
          | (refine Calls.mono h fun e w'' he => ?_
             cases e with
             | returned u => exact he
             | panicked c => exact hq _ _ _ he
             | outgrown => obtain ⟨a0, w0, h2⟩ := he; exact ⟨a0, w0, hq _ _ _ h2⟩)
      | halt x w' =>
        cases x <;> simp only [Oper.upon] at h ⊢
        case panic u => exact hq _ _ _ h
    · rename_i hw
      simp only [hw] at h
      exact h

theorem wpAnyS_monoQ {Q Q' : Exit → Act → World → Prop} (hq : ∀ e a w, Q e a w → Q' e a w) {S : Array Bool → World → Prop} : ∀ (fuel : Nat) (L : Array Bool) (a : Act) (w : World), wpAnyS P ops Q S fuel L a w → wpAnyS P ops Q' S fuel L a w
  | 0, _, _, _, h => ⟨h.1, hq _ _ _ h.2⟩
  | fuel + 1, _, _, _, h => ⟨fun h0 => hq _ _ _ (h.1 h0), fun i hi => wpOp_monoQ hq (wpOp_mono (fun a' w' h' => ⟨h'.1, wpAnyS_monoQ hq fuel _ a' w' h'.2⟩) (h.2 i hi))⟩

/-- An object of noughts is made of which nobody speaks yet. -/
theorem HoldsT.junk {X : Ctx} {T : Tab} {a : Act} {w : World} (h : HoldsT ρ X T σ a w) (C : Array Value) (t : TypeId) (d : Nat) (x : Value) (hun : σ.tmps d = .un) :
    HoldsT ρ (X.withA fun b => b = w.heap.size) T σ (a.put (some d) x) (more w (.cells C t (0, 0))) := by
  have hrep : ∀ (q : V) (v : Value), Rep ρ w (Live X.A T σ.objs) T q v → Rep ρ (more w (.cells C t (0, 0))) (Live (X.withA fun b => b = w.heap.size).A T σ.objs) T q v :=
    fun q v hq => hq.later (by rw [more_size]; omega) (fun b hb _ => more_old w _ hb) (fun b hb hn hl => hn (by
      rcases hl with (g | g) | g
      · exact .inl g
      · omega
      · exact .inr g)) (fun b C' t' fr hb => ⟨C', fr, by rw [more_old w _ (lt_heap hb)]; exact hb, rfl⟩) (fun _ _ h => h)
  refine ⟨h.pre, ⟨fun b hb => ?_, fun k p hk => by rw [more_size]; have := h.mem.low k p hk; omega, fun k ob hk => ?_, h.mem.inj, h.mem.glob.later (by rw [more_size]; omega) (fun b hb _ => more_old w _ hb) (fun b hb hn hl => hn (by
      rcases hl with (g | g) | g
      · exact .inl g
      · omega
      · exact .inr g))⟩, h.top, fun u => ?_, ?_, h.defers.map hrep, ?_, h.fresh, h.old, h.stay, h.pc.trans' (fun _ _ _ h => h) h.stay h.pre (SameC.of_blocks h.mem.low fun b hb => more_old w _ hb), h.hforb, h.hks⟩
  · rw [more_size]
    rcases hb with g | g
    · have := h.mem.avoid b g; omega
    · omega
  · obtain ⟨p, h1, hA, h2, C', t', h3, h4⟩ := h.mem.obj k ob hk
    have := lt_heap h3
    refine ⟨p, h1, fun g => ?_, h2, C', t', by rw [more_old w _ this]; exact h3, fun r row hr => ?_⟩
    · rcases g with g | g
      · exact hA g
      · omega
    · obtain ⟨g1, g2, g3⟩ := h4 r row hr
      refine ⟨g1, g2, fun c q hq => ?_⟩
      obtain ⟨v, h6, h7⟩ := g3 c q hq
      exact ⟨v, h6, hrep _ _ h7⟩
  · by_cases e : u = d
    · subst e
      rw [hun]
      exact rep_un
    · have : (a.put (some d) x).tmps.getD u undef = a.tmps.getD u undef := by
        show (a.tmps.setIfInBounds d x).getD u undef = _
        simp [Array.getD_eq_getD_getElem?, Array.getElem?_setIfInBounds, Ne.symm e]
      rw [this]
      exact hrep _ _ (h.tmp u)
  · show (a.tmps.setIfInBounds d x).size = σ.n
    simp [h.size]
  · have hk := h.keep
    refine ⟨hk.os, hk.tape, hk.output, by rw [more_size]; have : X.w0.heap.size ≤ w.heap.size := hk.size; show X.w0.heap.size ≤ _; omega, fun b hb hn => ?_, fun b C' t' fr hb => ?_⟩
    · rw [more_old w _ (Nat.lt_of_lt_of_le hb hk.size)]; exact hk.block b hb hn
    · obtain ⟨C1, f1, h1, h2⟩ := hk.shape b C' t' fr hb
      exact ⟨C1, f1, by rw [more_old w _ (lt_heap h1)]; exact h1, h2⟩

/-- An object that was made is spoken of. -/
theorem HoldsT.adopt {X : Ctx} {S S' : Nat → Prop} {T : Tab} {a : Act} {w : World} {B : Born} {b : Nat} (h : HoldsT ρ (X.withA S) T σ a w) (hS : ∀ b', S b' ↔ (b' = b ∨ S' b')) (hB : BornRep ρ B) (he : Early T w a B b) (hb0 : X.w0.heap.size ≤ b) (hbA : ¬ X.A b) (hbS : ¬ S' b) (hd : B.d < σ.n) :
    HoldsT ρ (X.withA S') (T.put σ.next ⟨b, 0, B.ob.s⟩) (({ σ with objs := Objs.put σ.objs σ.next (some B.ob), next := σ.next + 1 } : St).put (some B.d) (B.v σ.next)) a w := by
  obtain ⟨e1, e2, e3⟩ := he
  obtain ⟨htop1, htop2⟩ := h.top σ.next (Nat.le_refl _)
  have hT : ∀ (k : Nat) (p : Pl), T k = some p → (T.put σ.next ⟨b, 0, B.ob.s⟩) k = some p := fun k p hk => by
    unfold Tab.put
    rw [if_neg (fun e => by subst e; rw [htop1] at hk; cases hk)]
    exact hk
  have hnew : (T.put σ.next ⟨b, 0, B.ob.s⟩) σ.next = some ⟨b, 0, B.ob.s⟩ := by unfold Tab.put; rw [if_pos rfl]
  have hlive : ∀ b', Live (X.withA S').A (T.put σ.next ⟨b, 0, B.ob.s⟩) (Objs.put σ.objs σ.next (some B.ob)) b' → Live (X.withA S).A T σ.objs b' := by
    rintro b' ((g | g) | ⟨k, ob', p, h1, h2, h3⟩)
    · exact .inl (.inl g)
    · exact .inl (.inr ((hS b').mpr (.inr g)))
    · unfold Objs.put at h1
      unfold Tab.put at h2
      by_cases e : k = σ.next
      · rw [if_pos e] at h2
        cases h2
        exact .inl (.inr ((hS b').mpr (.inl h3.symm)))
      · rw [if_neg e] at h1 h2
        exact .inr ⟨k, ob', p, h1, h2, h3⟩
  have hrep : ∀ (q : V) (v : Value), Rep ρ w (Live (X.withA S).A T σ.objs) T q v → Rep ρ w (Live (X.withA S').A (T.put σ.next ⟨b, 0, B.ob.s⟩) (Objs.put σ.objs σ.next (some B.ob))) (T.put σ.next ⟨b, 0, B.ob.s⟩) q v :=
    fun q v hq => hq.later (Nat.le_refl _) (fun _ _ _ => rfl) (fun b' _ hn hl => hn (hlive b' hl)) (fun b' C t fr hb => ⟨C, fr, hb, rfl⟩) hT
  refine ⟨fun k p hk => hT k p (h.pre k p hk), ⟨fun b' hb' => h.mem.avoid b' (hb'.imp id fun g => (hS b').mpr (.inr g)), fun k p hk => by
    unfold Tab.put at hk
    split at hk
    · cases hk; exact lt_heap e2
    · exact h.mem.low k p hk, fun k ob hk => ?_, fun i j x y p q hi hj hpi hpj hb => ?_, h.mem.glob.later (Nat.le_refl _) (fun _ _ _ => rfl) (fun b' _ hn hl => hn (hlive b' hl))⟩, fun k hk => ?_, fun u => ?_, h.size, h.defers.map hrep, h.keep, fun k p hk hp => ?_, fun k h1 h2 => ?_, fun k r c h1 h2 => ?_, h.pc, h.hforb, h.hks⟩
  · have hk' : Objs.put σ.objs σ.next (some B.ob) k = some ob := hk
    unfold Objs.put at hk'
    by_cases e : k = σ.next
    · rw [if_pos e] at hk'
      cases hk'
      refine ⟨⟨b, 0, B.ob.s⟩, by rw [e]; exact hnew, fun g => ?_, rfl, B.cs, B.el, e2, fun r row hr => ?_⟩
      · rcases g with g | g
        · exact hbA g
        · exact hbS g
      · obtain ⟨g1, g2, g3⟩ := hB.rows r row hr
        refine ⟨g1, g2, fun c q hq => ?_⟩
        obtain ⟨v, h6, h7⟩ := g3 c q hq
        exact ⟨v, by rw [Nat.zero_add]; exact h6, h7 _ _ _⟩
    · rw [if_neg e] at hk'
      obtain ⟨p, h1, hA, h2, C', t', h3, h4⟩ := h.mem.obj k ob hk'
      refine ⟨p, hT _ _ h1, fun g => hA (g.imp id fun g => (hS p.b).mpr (.inr g)), h2, C', t', h3, fun r row hr => ?_⟩
      obtain ⟨g1, g2, g3⟩ := h4 r row hr
      refine ⟨g1, g2, fun c q hq => ?_⟩
      obtain ⟨v, h6, h7⟩ := g3 c q hq
      exact ⟨v, h6, hrep _ _ h7⟩
  · have hi' : Objs.put σ.objs σ.next (some B.ob) i = some x := hi
    have hj' : Objs.put σ.objs σ.next (some B.ob) j = some y := hj
    unfold Objs.put at hi' hj'
    unfold Tab.put at hpi hpj
    by_cases e4 : i = σ.next <;> by_cases e5 : j = σ.next
    · omega
    · rw [if_pos e4] at hpi
      rw [if_neg e5] at hpj
      cases hpi
      exact (e3 j q hpj hb.symm).elim
    · rw [if_pos e5] at hpj
      rw [if_neg e4] at hpi
      cases hpj
      exact (e3 i p hpi hb).elim
    · rw [if_neg e4] at hi' hpi
      rw [if_neg e5] at hj' hpj
      exact h.mem.inj i j x y p q hi' hj' hpi hpj hb
  · have hk : σ.next + 1 ≤ k := hk
    obtain ⟨g1, g2⟩ := h.top k (by omega)
    show (Tab.put T σ.next _) k = none ∧ Objs.put σ.objs σ.next (some B.ob) k = none
    unfold Tab.put Objs.put
    rw [if_neg (by omega), if_neg (by omega)]
    exact ⟨g1, g2⟩
  · show Rep ρ w _ _ (if u = B.d then B.v σ.next else σ.tmps u) _
    by_cases e : u = B.d
    · rw [if_pos e, e, e1]
      exact hB.rep w _ _ σ.next b hnew e2
    · rw [if_neg e]
      exact hrep _ _ (h.tmp u)
  · unfold Tab.put at hp
    by_cases e : k = σ.next
    · rw [if_pos e] at hp
      cases hp
      exact .inl hb0
    · rw [if_neg e] at hp
      exact h.fresh k p hk hp
  · have h2' : Objs.put σ.objs σ.next (some B.ob) k ≠ none := h2
    unfold Objs.put at h2'
    by_cases e : k = σ.next
    · exfalso
      cases hx : X.T0 k with
      | none => exact h1 hx
      | some p =>
        have := h.pre k p hx
        rw [e, htop1] at this
        cases this
    · rw [if_neg e] at h2'
      exact h.old k h1 h2'
  · show Objs.put σ.objs σ.next (some B.ob) k ≠ none
    unfold Objs.put
    by_cases e : k = σ.next
    · rw [if_pos e]; simp
    · rw [if_neg e]; exact h.stay k r c h1 h2

/-- What is said of those of G that have come up already. -/
structure Ahead (ops : Array Oper) (B : Nat → Born) (G : List Nat) (L : Array Bool) (E : List Nat) (bs : Nat → Nat) (X : Ctx) (T : Tab) (a : Act) (w : World) : Prop where
  nodup : E.Nodup
  sub : ∀ g ∈ E, g ∈ G
  closed : Closed ops (listE L E)
  early : ∀ g ∈ E, Early T w a (B g) (bs g)
  low : ∀ g ∈ E, X.w0.heap.size ≤ bs g
  apart : ∀ g ∈ E, ¬ X.A (bs g)
  inj : ∀ g ∈ E, ∀ g' ∈ E, bs g = bs g' → g = g'

def blocksOf (E : List Nat) (bs : Nat → Nat) (b : Nat) : Prop := ∃ g ∈ E, bs g = b

/-- From here on, whatever order is picked; of G any may have come up. -/
def QAP (ρ : Nat → Value) (P : Program) (ops : Array Oper) (loud : Nat → Bool) (K : Ex → St → Prop) (B : Nat → Born) (G : List Nat) (n : Nat) (L : Array Bool) (Hs : List (Nat × CellP)) (σ : St) : Prop :=
  ∀ (E : List Nat) (bs : Nat → Nat) (X : Ctx) (T : Tab) (a : Act) (w : World), HoldsT ρ (X.withA (blocksOf E bs)) T σ a w → Ahead ops B G L E bs X T a w →
    wpAnyS P ops (Post ρ X K) (SI ops loud (X.withA (blocksOf E bs)).A T σ.objs w Hs) (n + (G.length - E.length)) (listE L E) a w

/-- What is known of G. -/
structure GOK (ops : Array Oper) (loud : Nat → Bool) (B : Nat → Born) (G : List Nat) : Prop where
  nodup : G.Nodup
  made : ∀ g ∈ G, ∃ o, ops[g]? = some o ∧ o.dst = some (B g).d ∧ o.guard = none
  quiet : ∀ g ∈ G, loud g = false
  slots : ∀ (j : Nat) (o : Oper) (g : Nat), ops[j]? = some o → g ∈ G → j ≠ g → o.dst ≠ some (B g).d

variable {B : Nat → Born} {G : List Nat} {n : Nat} {L : Array Bool} {Hs : List (Nat × CellP)}

theorem qap_enter (h : QAP ρ P ops loud K B G n L Hs σ) (hcl : Closed ops L) : QA ρ P ops loud K (n + G.length) L Hs σ := by
  intro X T a w hh
  have e : X.withA (blocksOf [] fun _ => 0) = X := by
    unfold Ctx.withA
    congr 1
    funext b
    simp [blocksOf]
  have := h [] (fun _ => 0) X T a w (by rw [e]; exact hh) ⟨List.nodup_nil, fun g hg => by simp at hg, hcl, fun g hg => by simp at hg, fun g hg => by simp at hg, fun g hg => by simp at hg, fun g hg => by simp at hg⟩
  rw [e] at this
  simpa [listE] using this

theorem length_le_of_nodup : ∀ {E G : List Nat}, E.Nodup → (∀ g ∈ E, g ∈ G) → E.length ≤ G.length
  | [], _, _, _ => Nat.zero_le _
  | g :: E, G, h1, h2 => by
    have h3 := List.nodup_cons.mp h1
    have hg : g ∈ G := h2 g List.mem_cons_self
    have := length_le_of_nodup (E := E) (G := G.erase g) h3.2 (fun x hx => (List.mem_erase_of_ne (by intro e; subst e; exact h3.1 hx)).mpr (h2 x (List.mem_cons_of_mem _ hx)))
    rw [List.length_erase_of_mem hg] at this
    have hpos : 0 < G.length := List.length_pos_of_mem hg
    simp only [List.length_cons]
    omega

/-- One of G comes up. -/
theorem ahead_step (hG : GOK ops loud B G) {g : Nat} {E : List Nat} {bs : Nat → Nat} {X : Ctx} {T : Tab} {a : Act} {w : World} (hg : g ∈ G) (hgE : g ∉ E) (hr : g ∈ Region.ready .any ops (listE L E))
    (hun : ∀ g ∈ G, σ.tmps (B g).d = .un) (hB : ∀ g ∈ G, ∀ o, ops[g]? = some o → BornOK ρ P σ o (B g)) (hh : HoldsT ρ (X.withA (blocksOf E bs)) T σ a w) (hA : Ahead ops B G L E bs X T a w) (hd : ∀ g ∈ G, (B g).d < σ.n)
    {Q : Exit → Act → World → Prop} {N : Act → World → Prop}
    (h : ∀ (bs' : Nat → Nat) (a' : Act) (w' : World), HoldsT ρ (X.withA (blocksOf (g :: E) bs')) T σ a' w' → Ahead ops B G L (g :: E) bs' X T a' w' → w.heap.size ≤ w'.heap.size → (∀ b, b < w.heap.size → w'.heap[b]? = w.heap[b]?) → (∀ b, b < w.heap.size → blocksOf (g :: E) bs' b → blocksOf E bs b) → N a' w') :
    wpOp P ops Q g N a w := by
  obtain ⟨o, ho, hdst, hgu⟩ := hG.made g hg
  unfold wpOp
  rw [ho]
  simp only
  rw [if_pos (by simp [Region.wanted, hgu])]
  refine .inl ?_
  unfold Oper.wp
  rw [hB g hg o ho _ T a w hh w]
  show N (a.put o.dst _) _
  rw [hdst]
  have hj := hh.junk (B g).cs (B g).el (B g).d ((B g).val w.heap.size) (hun g hg)
  have old : ∀ g' ∈ E, bs g' < w.heap.size := fun g' hg' => lt_heap (hA.early g' hg').2.1
  have hbs : ∀ g' ∈ E, (if g' = g then w.heap.size else bs g') = bs g' := fun g' hg' => if_neg (by intro e; subst e; exact hgE hg')
  refine h (fun x => if x = g then w.heap.size else bs x) _ _ ?_ ⟨List.nodup_cons.mpr ⟨hgE, hA.nodup⟩, ?_, ?_, ?_, ?_, ?_, ?_⟩ (by rw [more_size]; omega) (fun b hb => more_old w _ hb) ?_
  · have e : X.withA (blocksOf (g :: E) fun x => if x = g then w.heap.size else bs x) = (X.withA (blocksOf E bs)).withA fun b => b = w.heap.size := by
      unfold Ctx.withA
      congr 1
      funext b
      apply propext
      constructor
      · rintro (f | ⟨g', hg', f⟩)
        · exact .inl (.inl f)
        · have f : (if g' = g then w.heap.size else bs g') = b := f
          rcases List.mem_cons.mp hg' with e | e
          · rw [if_pos e] at f
            exact .inr f.symm
          · rw [hbs g' e] at f
            exact .inl (.inr ⟨g', e, f⟩)
      · rintro ((f | ⟨g', hg', f⟩) | f)
        · exact .inl f
        · refine .inr ⟨g', List.mem_cons_of_mem _ hg', ?_⟩
          show (if g' = g then w.heap.size else bs g') = b
          rw [hbs g' hg']; exact f
        · refine .inr ⟨g, List.mem_cons_self, ?_⟩
          show (if g = g then w.heap.size else bs g) = b
          rw [if_pos rfl]; exact f.symm
    rw [e]
    exact hj
  · intro g' hg'
    rcases List.mem_cons.mp hg' with e | e
    · subst e; exact hg
    · exact hA.sub g' e
  · exact hA.closed.set hr
  · intro g' hg'
    rcases List.mem_cons.mp hg' with e | e
    · subst e
      rw [if_pos rfl]
      refine ⟨?_, more_new w _, fun k p hk hb => ?_⟩
      · have hlt : (B g').d < a.tmps.size := by rw [hh.size]; exact hd g' hg
        show (a.tmps.setIfInBounds (B g').d _).getD (B g').d undef = _
        simp [Array.getD_eq_getD_getElem?, hlt]
      · have := hh.mem.low k p hk
        omega
    · rw [hbs g' e]
      obtain ⟨f1, f2, f3⟩ := hA.early g' e
      refine ⟨?_, by rw [more_old w _ (old g' e)]; exact f2, f3⟩
      have hne : (B g).d ≠ (B g').d := by
        obtain ⟨o', ho', hd', _⟩ := hG.made g' (hA.sub g' e)
        intro f
        exact hG.slots g' o' g ho' hg (by intro e2; subst e2; exact hgE e) (by rw [hd', f])
      show (a.tmps.setIfInBounds (B g).d _).getD (B g').d undef = _
      rw [← f1]
      simp [Array.getD_eq_getD_getElem?, Array.getElem?_setIfInBounds, hne]
  · intro g' hg'
    rcases List.mem_cons.mp hg' with e | e
    · subst e; rw [if_pos rfl]; exact hh.keep.size
    · rw [hbs g' e]; exact hA.low g' e
  · intro g' hg'
    rcases List.mem_cons.mp hg' with e | e
    · subst e
      rw [if_pos rfl]
      intro f
      exact absurd (hh.mem.avoid _ (.inl f)) (Nat.lt_irrefl _)
    · rw [hbs g' e]; exact hA.apart g' e
  · intro x hx y hy hxy
    rcases List.mem_cons.mp hx with e1 | e1 <;> rcases List.mem_cons.mp hy with e2 | e2
    · rw [e1, e2]
    · rw [e1, if_pos rfl, hbs y e2] at hxy
      have := old y e2
      omega
    · rw [e2, if_pos rfl, hbs x e1] at hxy
      have := old x e1
      omega
    · rw [hbs x e1, hbs y e2] at hxy
      exact hA.inj x e1 y e2 hxy
  · rintro b hb ⟨g', hg', f⟩
    have f : (if g' = g then w.heap.size else bs g') = b := f
    rcases List.mem_cons.mp hg' with e | e
    · rw [if_pos e] at f
      omega
    · rw [hbs g' e] at f
      exact ⟨g', e, f⟩

theorem Ahead.le {E : List Nat} {bs : Nat → Nat} {X : Ctx} {T : Tab} {a : Act} {w : World} (h : Ahead ops B G L E bs X T a w) : E.length ≤ G.length := length_le_of_nodup h.nodup h.sub

/-- One that only looks is taken first. -/
theorem qap_take (hG : GOK ops loud B G) {i : Nat} {o : Oper} {v : V} {C : CellP} (hi : ops[i]? = some o) (hs : Region.noSelect ops = true) (hl : loud i = false) (hiG : i ∉ G)
    (hf : Region.free .any ops L i = true) (hr : i ∈ Region.ready .any ops L)
    (hq : (wantV ops σ o = some true ∧ QQ ρ P σ C o v) ∨ (wantV ops σ o = some false ∧ v = .sc undef)) (hd : dstOK o σ) (hks : ∀ t, o.dst = some t → σ.ks t = false)
    (h : QAP ρ P ops loud K B G n (L.setIfInBounds i true) ((i, C) :: Hs) (σ.put o.dst v)) : QAP ρ P ops loud K B G (n + 1) L Hs σ := by
  intro E bs X T a w hh hA
  have hiE : i ∉ E := fun e => hiG (hA.sub i e)
  rw [show n + 1 + (G.length - E.length) = n + (G.length - E.length) + 1 by omega]
  refine take_at (X := X) (Y := X.withA (blocksOf E bs)) hi hs hl (free_listE hf) (ready_listE hr hiE) hA.closed hq hks rfl hh fun x hx => ?_
  have hnext := h E bs X T _ w (hh.put hx hd) ⟨hA.nodup, hA.sub, ?_, fun g hg => ?_, hA.low, hA.apart, hA.inj⟩
  · rw [put_objs, listE_set L i E hiE] at hnext
    exact hnext
  · rw [listE_set L i E hiE]
    exact hA.closed.set (ready_listE hr hiE)
  · obtain ⟨f1, f2, f3⟩ := hA.early g hg
    refine ⟨?_, f2, f3⟩
    have hne := hG.slots i o g hi (hA.sub g hg) (fun e => hiE (e ▸ hg))
    rw [← f1]
    cases hx : o.dst with
    | none => rfl
    | some t =>
      have : t ≠ (B g).d := fun e => hne (by rw [hx, e])
      show (a.tmps.setIfInBounds t x).getD (B g).d undef = _
      simp [Array.getD_eq_getD_getElem?, Array.getElem?_setIfInBounds, this]

/-- What may come up now is u, or of G. -/
def Only (ops : Array Oper) (L : Array Bool) (G : List Nat) (u : Nat → Bool) : Prop := ∀ j, L.getD j true = false → j ∉ G → u j = false → ∃ o, ops[j]? = some o ∧ ∃ e ∈ o.after, Region.binds .any e = true ∧ e.on ∉ G ∧ L.getD e.on false = false

theorem Only.ready {u : Nat → Bool} (h : Only ops L G u) {E : List Nat} (hE : ∀ g ∈ E, g ∈ G) {j : Nat} (hj : j ∈ Region.ready .any ops (listE L E)) : u j = true ∨ j ∈ G := by
  obtain ⟨h1, o, ho, hall⟩ := mem_ready.1 hj
  by_cases g1 : j ∈ G
  · exact .inr g1
  · cases g2 : u j with
    | true => exact .inl rfl
    | false =>
      have h2 : L.getD j true = false := by
        rw [listE_get] at h1
        split at h1
        · cases h1
        · exact h1
      obtain ⟨o', ho', e, he, hb, hnG, hun⟩ := h j h2 g1 g2
      rw [ho] at ho'
      cases ho'
      have h3 := hall e he hb
      rw [listE_get, if_neg (fun x => hnG (hE _ x.1)), hun] at h3
      cases h3

/-- The one that must come up now, or else one of G. -/
theorem qap_loud (hG : GOK ops loud B G) {Hs' : List (Nat × CellP)} {u : Nat} {C : CellP} (hr : u ∈ Region.ready .any ops L) (honly : Only ops L G (fun j => Nat.beq j u)) (hl : loud u = true)
    (hH : ∀ s P, (s, P) ∈ Hs → (s, P) ∈ Hs' ∨ Dep ops u s) (hC : ∀ s P, (s, P) ∈ Hs' → ∀ k r c, P k r c → C k r c)
    (hun : ∀ g ∈ G, σ.tmps (B g).d = .un) (hB : ∀ g ∈ G, ∀ o, ops[g]? = some o → BornOK ρ P σ o (B g)) (hd : ∀ g ∈ G, (B g).d < σ.n)
    (h : Brings ρ P ops K u C (QAP ρ P ops loud K B G n (L.setIfInBounds u true) Hs') σ) : QAP ρ P ops loud K B G (n + 1) L Hs σ := by
  have huG : u ∉ G := fun hg => by rw [hG.quiet u hg] at hl; cases hl
  have main : ∀ (m : Nat) (E : List Nat) (bs : Nat → Nat) (X : Ctx) (T : Tab) (a : Act) (w : World), G.length - E.length = m → HoldsT ρ (X.withA (blocksOf E bs)) T σ a w → Ahead ops B G L E bs X T a w →
      wpAnyS P ops (Post ρ X K) (SI ops loud (X.withA (blocksOf E bs)).A T σ.objs w Hs) (n + m + 1) (listE L E) a w := by
    intro m
    induction m using Nat.strongRecOn with
    | ind m ih =>
    intro E bs X T a w hm hh hA
    have huE : u ∉ E := fun e => huG (hA.sub u e)
    have hru := ready_listE hr huE
    refine ⟨fun h0 => (by rw [h0] at hru; cases hru), fun i hi => ?_⟩
    by_cases hiu : i = u
    · subst hiu
      refine wpOp_mono (fun a' w' hx => ?_) (wpOp_frame (wpOp_monoQ Post.unA (h (X.withA (blocksOf E bs)) T a w hh)))
      obtain ⟨⟨T', σ', h1, h2, h3⟩, hfr⟩ := hx
      have hlt : i < (listE L E).size := by
        have hlen := (mem_ready.1 hru).1
        rcases Nat.lt_or_ge i (listE L E).size with g | g
        · exact g
        · simp [Array.getElem?_eq_none g] at hlen
      have hset : ((listE L E).setIfInBounds i true).getD i false = true := by simp [hlt]
      refine ⟨si_step hl hH hC h3 hset SI.here, ?_⟩
      have hnext := h1 E bs X T' a' w' h2 ⟨hA.nodup, hA.sub, ?_, fun g hg => ?_, hA.low, hA.apart, hA.inj⟩
      · rw [listE_set L i E huE, hm] at hnext
        exact weak_step hl hH hC h3 _ _ _ _ hset hnext
      · rw [listE_set L i E huE]
        exact hA.closed.set hru
      · obtain ⟨f1, f2, f3⟩ := hA.early g hg
        have hlow := lt_heap f2
        refine ⟨?_, ?_, fun k p hk hb => ?_⟩
        · rw [← f1]
          exact hfr _ fun o ho => hG.slots i o g ho (hA.sub g hg) (fun e => huE (e ▸ hg))
        · rw [h3.stab.2 _ hlow (fun ⟨k, ob, p, _, g2, g3⟩ => f3 k p g2 g3)]
          exact f2
        · obtain ⟨k', p', g1, g2⟩ := h3.map k p hk (by rw [hb]; exact hlow)
          exact f3 k' p' g1 (by rw [g2, hb])
    · rcases honly.ready hA.sub hi with g1 | g1
      · exact absurd (Nat.eq_of_beq_eq_true g1) hiu
      · have hiE : i ∉ E := fun e => by
          have := (mem_ready.1 hi).1
          rw [listE_get] at this
          rcases Nat.lt_or_ge i L.size with g | g
          · rw [if_pos ⟨e, g⟩] at this; cases this
          · rw [if_neg (by omega)] at this
            simp [Array.getElem?_eq_none g] at this
        refine ahead_step hG g1 hiE hi hun hB hh hA hd fun bs' a' w' h2 h3 h4 h5 h6 => ?_
        have hle := h3.le
        simp only [List.length_cons] at hle
        have hm' : m = (m - 1) + 1 := by omega
        have hrec := ih (m - 1) (by omega) (i :: E) bs' X T a' w' (by simp only [List.length_cons]; omega) h2 h3
        rw [show n + (m - 1) + 1 = n + m by omega] at hrec
        have hS : ∀ (L' : Array Bool) (w2 : World), SI ops loud (X.withA (blocksOf (i :: E) bs')).A T σ.objs w' Hs L' w2 → SI ops loud (X.withA (blocksOf E bs)).A T σ.objs w Hs L' w2 := by
          rintro L' w2 ⟨k1, k2, k3⟩
          exact ⟨Nat.le_trans h4 k1, fun b hb hD hn => by rw [k2 b (Nat.lt_of_lt_of_le hb h4) (fun g => hD (g.imp id (h6 b hb))) hn, h5 b hb],
            fun s Q hs hd => (SameC.of_blocks hh.mem.low h5).trans' (fun _ _ _ h => h) (fun _ _ _ _ h => h) (fun _ _ h => h) (k3 s Q hs hd)⟩
        exact ⟨⟨h4, fun b hb _ _ => h5 b hb, fun s Q _ _ => SameC.of_blocks hh.mem.low h5⟩, wpAnyS_weak hS _ _ _ _ hrec⟩
  intro E bs X T a w hh hA
  rw [show n + 1 + (G.length - E.length) = n + (G.length - E.length) + 1 by omega]
  exact main _ E bs X T a w rfl hh hA

/-- All of G are spoken of. -/
def adoptAll (B : Nat → Born) (σ : St) : List Nat → St
  | [] => σ
  | g :: gs => adoptAll B (({ σ with objs := Objs.put σ.objs σ.next (some (B g).ob), next := σ.next + 1 } : St).put (some (B g).d) ((B g).v σ.next)) gs

theorem adopt_all {bs : Nat → Nat} {X : Ctx} {a : Act} {w : World} : ∀ (G : List Nat) (σ : St) (T : Tab), G.Nodup → HoldsT ρ (X.withA (blocksOf G bs)) T σ a w → (∀ g ∈ G, BornRep ρ (B g)) → (∀ g ∈ G, Early T w a (B g) (bs g)) →
    (∀ g ∈ G, X.w0.heap.size ≤ bs g) → (∀ g ∈ G, ¬ X.A (bs g)) → (∀ g ∈ G, ∀ g' ∈ G, bs g = bs g' → g = g') → (∀ g ∈ G, (B g).d < σ.n) →
    ∃ T', HoldsT ρ X T' (adoptAll B σ G) a w ∧ (∀ (k : Nat) (p : Pl), T k = some p → T' k = some p) ∧ (∀ (k : Nat) (p : Pl), T' k = some p → (∃ q, T k = some q ∧ q.b = p.b) ∨ ∃ g ∈ G, bs g = p.b) ∧
      (∀ k, σ.objs k ≠ none → (adoptAll B σ G).objs k ≠ none) ∧ (∀ b, LiveO T' (adoptAll B σ G).objs b → LiveO T σ.objs b ∨ ∃ g ∈ G, bs g = b)
  | [], σ, T, _, hh, _, _, _, _, _, _ => by
    refine ⟨T, ?_, fun _ _ h => h, fun k p h => .inl ⟨p, h, rfl⟩, fun k h => h, fun b h => .inl h⟩
    have e : X.withA (blocksOf [] bs) = X := by
      unfold Ctx.withA
      congr 1
      funext b
      simp [blocksOf]
    rw [e] at hh
    exact hh
  | g :: G, σ, T, hnd, hh, hB, he, hlow, hap, hinj, hd => by
    have hnd' := List.nodup_cons.mp hnd
    have hS : ∀ b', blocksOf (g :: G) bs b' ↔ (b' = bs g ∨ blocksOf G bs b') := fun b' => by
      unfold blocksOf
      constructor
      · rintro ⟨x, hx, e⟩
        rcases List.mem_cons.mp hx with f | f
        · exact .inl (by rw [← e, f])
        · exact .inr ⟨x, f, e⟩
      · rintro (e | ⟨x, f, e⟩)
        · exact ⟨g, List.mem_cons_self, e.symm⟩
        · exact ⟨x, List.mem_cons_of_mem _ f, e⟩
    have hbS : ¬ blocksOf G bs (bs g) := fun ⟨g', h1, h2⟩ => by
      have := hinj g' (List.mem_cons_of_mem _ h1) g List.mem_cons_self h2
      subst this
      exact hnd'.1 h1
    have htop := hh.top σ.next (Nat.le_refl _)
    have h1 := hh.adopt hS (hB g List.mem_cons_self) (he g List.mem_cons_self) (hlow g List.mem_cons_self) (hap g List.mem_cons_self) hbS (hd g List.mem_cons_self)
    have hT : ∀ (k : Nat) (p : Pl), T k = some p → (T.put σ.next ⟨bs g, 0, (B g).ob.s⟩) k = some p := fun k p hk => by
      unfold Tab.put
      rw [if_neg (fun e => by subst e; rw [htop.1] at hk; cases hk)]
      exact hk
    have hT' : ∀ (k : Nat) (p : Pl), (T.put σ.next ⟨bs g, 0, (B g).ob.s⟩) k = some p → T k = some p ∨ p.b = bs g := fun k p hk => by
      unfold Tab.put at hk
      split at hk
      · cases hk; exact .inr rfl
      · exact .inl hk
    obtain ⟨T', g1, g2, g3, g4, g5⟩ := adopt_all G _ _ hnd'.2 h1 (fun x hx => hB x (List.mem_cons_of_mem _ hx)) (fun x hx => by
      obtain ⟨f1, f2, f3⟩ := he x (List.mem_cons_of_mem _ hx)
      refine ⟨f1, f2, fun k p hk => ?_⟩
      rcases hT' k p hk with q | q
      · exact f3 k p q
      · rw [q]
        exact fun e => hbS ⟨x, hx, e.symm⟩) (fun x hx => hlow x (List.mem_cons_of_mem _ hx)) (fun x hx => hap x (List.mem_cons_of_mem _ hx))
      (fun x hx y hy => hinj x (List.mem_cons_of_mem _ hx) y (List.mem_cons_of_mem _ hy)) (fun x hx => hd x (List.mem_cons_of_mem _ hx))
    refine ⟨T', g1, fun k p hk => g2 k p (hT k p hk), fun k p hk => ?_, fun k hk => g4 k ?_, fun b hb => ?_⟩
    · rcases g3 k p hk with ⟨q, f1, f2⟩ | ⟨x, f1, f2⟩
      · rcases hT' k q f1 with f3 | f3
        · exact .inl ⟨q, f3, f2⟩
        · exact .inr ⟨g, List.mem_cons_self, by rw [← f3, f2]⟩
      · exact .inr ⟨x, List.mem_cons_of_mem _ f1, f2⟩
    · rw [put_objs]
      show Objs.put σ.objs σ.next _ k ≠ none
      unfold Objs.put
      split
      · simp
      · exact hk
    · rcases g5 b hb with ⟨k, ob, p, f1, f2, f3⟩ | ⟨x, f1, f2⟩
      · rw [put_objs] at f1
        have f1 : Objs.put σ.objs σ.next (some (B g).ob) k = some ob := f1
        unfold Objs.put at f1
        unfold Tab.put at f2
        by_cases e : k = σ.next
        · rw [if_pos e] at f2
          cases f2
          exact .inr ⟨g, List.mem_cons_self, f3⟩
        · rw [if_neg e] at f1 f2
          exact .inl ⟨k, ob, p, f1, f2, f3⟩
      · exact .inr ⟨x, List.mem_cons_of_mem _ f1, f2⟩

/-- All that waits, waits for all of G, or for something else that has not come up. -/
def Last (ops : Array Oper) (L : Array Bool) (G : List Nat) : Prop :=
  ∀ j, L.getD j true = false → j ∉ G → ∃ o, ops[j]? = some o ∧ ((∃ e ∈ o.after, Region.binds .any e = true ∧ e.on ∉ G ∧ L.getD e.on false = false) ∨ ∀ g ∈ G, ∃ e ∈ o.after, Region.binds .any e = true ∧ e.on = g ∧ L.getD g false = false)

theorem eq_of_getD {A C : Array Bool} (hs : A.size = C.size) (h : ∀ j, A.getD j false = C.getD j false) : A = C := by
  apply Array.ext hs
  intro i h1 h2
  have := h i
  simpa [Array.getD_eq_getD_getElem?, h1, h2] using this

/-- The rest of G comes up. -/
theorem qap_finish (hG : GOK ops loud B G) (hlast : Last ops L G) (hrg : ∀ g ∈ G, g ∈ Region.ready .any ops L)
    (hun : ∀ g ∈ G, σ.tmps (B g).d = .un) (hB : ∀ g ∈ G, ∀ o, ops[g]? = some o → BornOK ρ P σ o (B g)) (hR : ∀ g ∈ G, BornRep ρ (B g)) (hd : ∀ g ∈ G, (B g).d < σ.n)
    (h : QA ρ P ops loud K n (listE L G) Hs (adoptAll B σ G)) : QAP ρ P ops loud K B G n L Hs σ := by
  have main : ∀ (m : Nat) (E : List Nat) (bs : Nat → Nat) (X : Ctx) (T : Tab) (a : Act) (w : World), G.length - E.length = m → HoldsT ρ (X.withA (blocksOf E bs)) T σ a w → Ahead ops B G L E bs X T a w →
      wpAnyS P ops (Post ρ X K) (SI ops loud (X.withA (blocksOf E bs)).A T σ.objs w Hs) (n + m) (listE L E) a w := by
    intro m
    induction m with
    | zero =>
      intro E bs X T a w hm hh hA
      have hle := hA.le
      -- E is all of G
      have hall : ∀ g ∈ G, g ∈ E := by
        intro g hg
        by_cases e : g ∈ E
        · exact e
        · have := length_le_of_nodup (E := g :: E) (G := G) (List.nodup_cons.mpr ⟨e, hA.nodup⟩) (fun x hx => by
            rcases List.mem_cons.mp hx with f | f
            · rw [f]; exact hg
            · exact hA.sub x f)
          simp only [List.length_cons] at this
          omega
      have hb : blocksOf E bs = blocksOf G bs := by
        funext b
        apply propext
        exact ⟨fun ⟨g, h1, h2⟩ => ⟨g, hA.sub g h1, h2⟩, fun ⟨g, h1, h2⟩ => ⟨g, hall g h1, h2⟩⟩
      have hL : listE L E = listE L G := by
        apply eq_of_getD (by rw [listE_size, listE_size])
        intro j
        rw [listE_get, listE_get]
        have : (j ∈ E ∧ j < L.size) = (j ∈ G ∧ j < L.size) := propext ⟨fun x => ⟨hA.sub j x.1, x.2⟩, fun x => ⟨hall j x.1, x.2⟩⟩
        simp only [this]
      rw [hb] at hh
      obtain ⟨T', g1, g2, g3, g4, g5⟩ := adopt_all G σ T hG.nodup hh hR (fun g hg => hA.early g (hall g hg)) (fun g hg => hA.low g (hall g hg)) (fun g hg => hA.apart g (hall g hg))
        (fun g hg g' hg' => hA.inj g (hall g hg) g' (hall g' hg')) hd
      have hnext := h X T' a w g1
      rw [hL]
      refine wpAnyS_weak ?_ _ _ _ _ hnext
      rintro L' w' ⟨k1, k2, k3⟩
      refine ⟨k1, fun b hb hD hn => k2 b hb (fun g => hD (.inl g)) (fun hlv => ?_), fun s Q hs hd => (SameC.refl _ _ _ _).trans' (fun _ _ _ h => h) (fun k _ _ _ hne => g4 k hne) g2 (k3 s Q hs hd)⟩
      rcases g5 b hlv with f | ⟨x, f1, f2⟩
      · exact hn f
      · exact hD (.inr ⟨x, hall x f1, f2⟩)
    | succ m ih =>
      intro E bs X T a w hm hh hA
      have hmiss : ∃ g ∈ G, g ∉ E := by
        apply Classical.byContradiction
        intro hno
        have : ∀ g ∈ G, g ∈ E := fun g hg => Classical.byContradiction fun h => hno ⟨g, hg, h⟩
        have := length_le_of_nodup hG.nodup this
        omega
      obtain ⟨g0, hg0, hg0E⟩ := hmiss
      have hr0 := ready_listE (hrg g0 hg0) hg0E
      refine ⟨fun h0 => (by rw [h0] at hr0; cases hr0), fun i hi => ?_⟩
      have hiu : L.getD i true = false ∧ i ∉ E := by
        have := (mem_ready.1 hi).1
        rw [listE_get] at this
        split at this
        · cases this
        · rename_i hno
          refine ⟨this, fun e => hno ⟨e, ?_⟩⟩
          rcases Nat.lt_or_ge i L.size with g | g
          · exact g
          · simp [Array.getElem?_eq_none g] at this
      have hiG : i ∈ G := by
        apply Classical.byContradiction
        intro hno
        obtain ⟨o, ho, hc⟩ := hlast i hiu.1 hno
        obtain ⟨_, o', ho', hallr⟩ := mem_ready.1 hi
        rw [ho] at ho'
        cases ho'
        rcases hc with ⟨e, he, hb, hnG, hun⟩ | hc
        · have h3 := hallr e he hb
          rw [listE_get, if_neg (fun x => hnG (hA.sub _ x.1)), hun] at h3
          cases h3
        · obtain ⟨e, he, hb, heg, hun⟩ := hc g0 hg0
          have h3 := hallr e he hb
          rw [heg, listE_get, if_neg (fun x => hg0E x.1), hun] at h3
          cases h3
      refine ahead_step hG hiG hiu.2 hi hun hB hh hA hd fun bs' a' w' h2 h3 h4 h5 h6 => ?_
      have hrec := ih (i :: E) bs' X T a' w' (by simp only [List.length_cons]; omega) h2 h3
      have hS : ∀ (L' : Array Bool) (w2 : World), SI ops loud (X.withA (blocksOf (i :: E) bs')).A T σ.objs w' Hs L' w2 → SI ops loud (X.withA (blocksOf E bs)).A T σ.objs w Hs L' w2 := by
        rintro L' w2 ⟨k1, k2, k3⟩
        exact ⟨Nat.le_trans h4 k1, fun b hb hD hn => by rw [k2 b (Nat.lt_of_lt_of_le hb h4) (fun g => hD (g.imp id (h6 b hb))) hn, h5 b hb],
          fun s Q hs hd => (SameC.of_blocks hh.mem.low h5).trans' (fun _ _ _ h => h) (fun _ _ _ _ h => h) (fun _ _ h => h) (k3 s Q hs hd)⟩
      exact ⟨⟨h4, fun b hb _ _ => h5 b hb, fun s Q _ _ => SameC.of_blocks hh.mem.low h5⟩, wpAnyS_weak hS _ _ _ _ hrec⟩
  intro E bs X T a w hh hA
  exact main _ E bs X T a w rfl hh hA

end Go.Proofs.YtjljgldgkkfckaaDoor.M
