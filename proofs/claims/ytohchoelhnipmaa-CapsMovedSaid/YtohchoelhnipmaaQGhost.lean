/- Other accounts of the same state: less known, other numbers, what is not written any more. -/
import Derived.Test.YtohchoelhnipmaaQMake
namespace Go.Proofs.Ytohchoelhnipmaa.Q
open Go Go.RowKit
set_option linter.unusedSimpArgs false
set_option linter.unusedVariables false

variable {P : Program} {σ : St} {K : Ex → St → Prop}

theorem q_ghost {c : Code} {σ' : St} (h : Gh σ σ') (k : QC P c σ' K) : QC P c σ K := fun X T a w hh => by
  obtain ⟨T', h'⟩ := h X T a w hh
  exact k X T' a w h'

/-- A weaker word on a value. -/
def Wk (v v' : V) : Prop := ∀ (w : World) (L : Nat → Prop) (T : Tab) (x : Value), Rep w L T v x → Rep w L T v' x

theorem Wk.refl (v : V) : Wk v v := fun _ _ _ _ h => h
theorem Wk.nil (s : Nat) : Wk (.sc (.slice none 0 0)) (.ro s []) := fun w L T x h => by rw [rep_sc h]; exact .pure (.nil s)

theorem gh_slots {tmps' : List (Nat × V)} (h : ∀ (t : Nat) (v' : V), look tmps' t = some v' → ∃ v, look σ.tmps t = some v ∧ Wk v v') : Gh σ { σ with tmps := tmps' } :=
  fun X T a w hh => ⟨T, hh.pre, hh.mem, fun t v hv => by
    obtain ⟨v0, h1, h2⟩ := h t v hv
    exact h2 _ _ _ _ (hh.tmp t v0 h1), hh.size, hh.defers, hh.keep, hh.fresh, hh.avoid0, hh.hm, hh.hmods⟩

/-- Other numbers for objects that are one's own; what is not named is given up. -/
theorem gh_number {O' : Objs} {tmps' : List (Nat × V)} (e : Nat → Nat) (hm : σ.m ≤ O'.length) (hlt : ∀ j, j < O'.length → e j < σ.objs.length) (hinj : ∀ i j, i < O'.length → j < O'.length → e i = e j → i = j)
    (hlow : ∀ j, j < σ.m → e j = j) (hhigh : ∀ j, σ.m ≤ j → j < O'.length → σ.m ≤ e j)
    (hobj : ∀ (j : Nat) (ob : Ob), O'[j]? = some (some ob) → σ.objs[e j]? = some (some (ob.map e)) ∧ ob.idsLt O'.length)
    (htmp : ∀ (t : Nat) (v : V), look tmps' t = some v → look σ.tmps t = some (v.map e) ∧ v.idsLt O'.length = true) : Gh σ { σ with objs := O', tmps := tmps' } := by
  intro X T a w hh
  have hT : ∀ j, j < O'.length → ((List.range O'.length).map fun j => T.getD (e j) (0, 0))[j]? = T[e j]? := by
    intro j hj
    have hlt' := hlt j hj
    rw [← hh.mem.len] at hlt'
    rw [List.getElem?_map, List.getElem?_range hj]
    simp only [Option.map_some, List.getD, List.getElem?_eq_getElem hlt', Option.getD_some]
  have hlive : ∀ b, Live X.A ((List.range O'.length).map fun j => T.getD (e j) (0, 0)) O' b → Live X.A T σ.objs b := by
    rintro b (h1 | ⟨j, ob, s, h1, h2⟩)
    · exact .inl h1
    · rw [hT j (lt_of_get h1)] at h2
      exact .inr ⟨e j, _, s, (hobj j ob h1).1, h2⟩
  have hrep : ∀ (q : V) (x : Value), q.idsLt O'.length = true → Rep w (Live X.A T σ.objs) T (q.map e) x → Rep w (Live X.A ((List.range O'.length).map fun j => T.getD (e j) (0, 0)) O') ((List.range O'.length).map fun j => T.getD (e j) (0, 0)) q x :=
    fun q x hq hr => (Rep.down hT q x hq hr).congr hlive
  refine ⟨(List.range O'.length).map fun j => T.getD (e j) (0, 0), ?_, ⟨by simp, ?_, ?_, hh.mem.avoid⟩, fun t v hv => ?_, hh.size, hh.defers, hh.keep, ?_, hh.avoid0, hh.hm, hh.hmods⟩
  · intro k p hp
    have hk : k < σ.m := by rw [← hh.hm]; exact lt_tab hp
    rw [hT k (by omega), hlow k hk]
    exact hh.pre k p hp
  · intro j ob hj
    obtain ⟨h1, h2⟩ := hobj j ob hj
    obtain ⟨b, h3, h4, C, t, h5, h6, h7⟩ := hh.mem.obj _ _ h1
    refine ⟨b, by rw [hT j (lt_of_get hj)]; exact h3, h4, C, t, h5, fun row hrow => ?_, fun r row hr c q hq => ?_⟩
    · have := h6 (V.mapL e row) (List.mem_map.mpr ⟨row, hrow, rfl⟩)
      rw [V.mapL_eq] at this
      refine ⟨by simpa [Ob.map] using this.1, fun q hq => ?_⟩
      rw [← V.map_one e q]
      exact this.2 _ (List.mem_map.mpr ⟨q, hq, rfl⟩)
    · obtain ⟨v, h8, h9⟩ := h7 r (V.mapL e row) (by simp [Ob.map, hr]) c (q.map e) (by rw [mapL_get, hq]; rfl)
      exact ⟨v, h8, hrep q v (h2 row (List.mem_of_getElem? hr) q (List.mem_of_getElem? hq)) h9⟩
  · intro i j x y b s s' hi hj hbi hbj
    have gi := lt_of_get hi
    have gj := lt_of_get hj
    rw [hT i gi] at hbi
    rw [hT j gj] at hbj
    exact hinj i j gi gj (hh.mem.inj _ _ _ _ b _ _ (hobj i x hi).1 (hobj j y hj).1 hbi hbj)
  · obtain ⟨h1, h2⟩ := htmp t v hv
    exact hrep v _ h2 (hh.tmp t _ h1)
  · intro k b s hk hb
    have hlt' := lt_tab hb
    simp at hlt'
    rw [hT k hlt'] at hb
    exact hh.fresh (e k) b s (by rw [hh.hm] at hk ⊢; exact hhigh k hk hlt') hb

/-! ### What is not written any more -/

def V.pure : V → Bool
  | .sc _ | .ro _ _ | .pro _ => true
  | _ => false

theorem rep_pure {w : World} {L : Nat → Prop} {T : Tab} {q : V} {x : Value} (h : Rep w L T q x) (hq : q.pure = true) : RepP w L q x := by
  cases h with
  | pure h => exact h
  | _ => simp [V.pure] at hq

def frz1 (k : Nat) (ob : Ob) (k' off len : Nat) : V :=
  match Nat.beq k' k, Nat.ble (off + len) ob.rows.length with
  | true, true => .ro ob.s ((ob.rows.drop off).take len)
  | _, _ => .sl k' off len

mutual
/-- An object's rows in the place of its slices. -/
def V.frz (k : Nat) (ob : Ob) : V → V
  | .sc v => .sc v
  | .ro s rows => .ro s rows
  | .pro l => .pro l
  | .ptr k r c => .ptr k r c
  | .sl k' off len => frz1 k ob k' off len
  | .fn f l => .fn f (V.frzL k ob l)
  | .agg l => .agg (V.frzL k ob l)
  | .tup l => .tup (V.frzL k ob l)
def V.frzL (k : Nat) (ob : Ob) : List V → List V
  | [] => []
  | q :: l => V.frz k ob q :: V.frzL k ob l
end

theorem V.frzL_eq (k : Nat) (ob : Ob) (l : List V) : V.frzL k ob l = l.map (V.frz k ob) := by
  induction l with
  | nil => rfl
  | cons q l ih => simp [V.frzL, ih]

theorem V.frz_one (k : Nat) (ob : Ob) (q : V) : (q.frz k ob).one = q.one := by
  cases q with
  | sl k' off len =>
    simp only [V.frz]
    unfold frz1
    split <;> rfl
  | _ => first | rfl | simp [V.frz, V.one]

def frzTmps (k : Nat) (ob : Ob) : List (Nat × V) → List (Nat × V)
  | [] => []
  | (t, v) :: r => (t, v.frz k ob) :: frzTmps k ob r

theorem look_frz (k : Nat) (ob : Ob) (t : Nat) : ∀ l : List (Nat × V), look (frzTmps k ob l) t = (look l t).map (V.frz k ob)
  | [] => rfl
  | (u, v) :: r => by
    unfold frzTmps look
    split
    · rfl
    · exact look_frz k ob t r

/-- The rows of the objects that lead to what is frozen, anew. -/
def frzObjs (k : Nat) (ob : Ob) : List Nat → Objs → Objs
  | [], O => O
  | j :: fz, O => frzObjs k ob fz (O.set j (match O[j]? with
    | some (some x) => some ⟨x.s, x.rows.map (V.frzL k ob)⟩
    | _ => none))

theorem gh_freeze {k : Nat} {ob : Ob} (hk : σ.objs[k]? = some (some ob)) (hp : ∀ row ∈ ob.rows, ∀ q ∈ row, q.pure = true) :
    Gh σ { σ with objs := σ.objs.set k none, tmps := frzTmps k ob σ.tmps } ∧
    (∀ (j : Nat) (x : Ob), j ≠ k → σ.objs[j]? = some (some x) → Gh σ { σ with objs := (σ.objs.set k none).set j (some ⟨x.s, x.rows.map (V.frzL k ob)⟩), tmps := frzTmps k ob σ.tmps }) := by
  have key : ∀ (X : Ctx) (T : Tab) (a : Act) (w : World), HoldsT X T σ a w → ∀ (q : V) (x : Value), Rep w (Live X.A T σ.objs) T q x → Rep w (Live X.A T (σ.objs.set k none)) T (q.frz k ob) x := by
    intro X T a w hh
    obtain ⟨b, hT, hA, C, t, hb, hrows, hcells⟩ := hh.mem.obj k ob hk
    obtain ⟨_, _, hl⟩ := hh.kill k
    have hnb : ¬ Live X.A T (σ.objs.set k none) b := by
      rintro (h1 | ⟨j, x, s, h1, h2⟩)
      · exact hA h1
      · rw [List.getElem?_set] at h1
        split at h1
        · first
            | cases h1
            | (split at h1 <;> cases h1)
        · rename_i hne
          exact hne (hh.mem.inj k j ob x b _ _ hk h1 hT h2)
    intro q x hq
    induction hq with
    | @pure q x h =>
      have : q.frz k ob = q := by cases h <;> simp [V.frz]
      rw [this]
      exact (Rep.pure h).congr hl
    | ptr k' r c b' s h => simp only [V.frz]; exact .ptr k' r c b' s h
    | sl k' off len cap b' s h hc hroom =>
      simp only [V.frz, frz1]
      split
      · rename_i h1 h2
        have h1 := Nat.eq_of_beq_eq_true h1
        have h2 := Nat.le_of_ble_eq_true h2
        subst h1
        rw [hT] at h
        injection h with h
        injection h with e1 e2
        subst e1 e2
        have hlen : ((ob.rows.drop off).take len).length = len := by simp; omega
        have hval : ∀ (r : Nat) (row : List V), ((ob.rows.drop off).take len)[r]? = some row → ∀ (c : Nat) (q : V), row[c]? = some q →
            ∃ v, w.cell? ⟨b, off * ob.s + (r * ob.s + c), none⟩ = some v ∧ RepP w (Live X.A T (σ.objs.set k' none)) q v := by
          intro r row hr c q hq
          rw [List.getElem?_take] at hr
          split at hr
          · rw [List.getElem?_drop] at hr
            obtain ⟨v, h3, h4⟩ := hcells _ row hr c q hq
            refine ⟨v, ?_, rep_pure (h4.congr hl) (hp row (List.mem_of_getElem? hr) q (List.mem_of_getElem? hq))⟩
            rw [show off * ob.s + (r * ob.s + c) = (off + r) * ob.s + c by rw [Nat.add_mul]; omega]
            simp [World.cell?, hb, h3]
          · cases hr
        classical
        let val : Nat → Nat → Value := fun r c => if h : ∃ v, w.cell? ⟨b, off * ob.s + (r * ob.s + c), none⟩ = some v then h.choose else undef
        have hv : ∀ r c v, w.cell? ⟨b, off * ob.s + (r * ob.s + c), none⟩ = some v → val r c = v := by
          intro r c v hv
          have hex : ∃ v, w.cell? ⟨b, off * ob.s + (r * ob.s + c), none⟩ = some v := ⟨v, hv⟩
          have : val r c = hex.choose := by simp only [val]; rw [dif_pos hex]
          rw [this]
          exact Option.some.inj (hex.choose_spec.symm.trans hv)
        have hro := RepP.ro (w := w) (L := Live X.A T (σ.objs.set k' none)) ob.s ((ob.rows.drop off).take len) b (off * ob.s) cap val hnb (lt_heap hb) (by omega)
          (fun row hrow => hrows row (List.mem_of_mem_drop (List.mem_of_mem_take hrow)))
          (fun r row hr c q hq => by obtain ⟨v, h3, h4⟩ := hval r row hr c q hq; rw [hv r c v h3]; exact h3)
          (fun r row hr c q hq => by obtain ⟨v, h3, h4⟩ := hval r row hr c q hq; rw [hv r c v h3]; exact h4)
        rw [hlen] at hro
        exact .pure hro
      · exact .sl k' off len cap b' s h hc hroom
    | fn f l vs hs h ih =>
      simp only [V.frz, V.frzL_eq]
      refine .fn f _ vs (by simpa using hs) fun i q hq => ?_
      rw [List.getElem?_map] at hq
      simp only [Option.map_eq_some_iff] at hq
      obtain ⟨p, hp, rfl⟩ := hq
      exact ih i p hp
    | agg l vs hs h ih =>
      simp only [V.frz, V.frzL_eq]
      refine .agg _ vs (by simpa using hs) fun i q hq => ?_
      rw [List.getElem?_map] at hq
      simp only [Option.map_eq_some_iff] at hq
      obtain ⟨p, hp, rfl⟩ := hq
      exact ih i p hp
    | tup l vs hs h ih =>
      simp only [V.frz, V.frzL_eq]
      refine .tup _ vs (by simpa using hs) fun i q hq => ?_
      rw [List.getElem?_map] at hq
      simp only [Option.map_eq_some_iff] at hq
      obtain ⟨p, hp, rfl⟩ := hq
      exact ih i p hp
  constructor
  · intro X T a w hh
    obtain ⟨h1, h2, h3⟩ := hh.kill k
    refine ⟨T, h1.pre, h1.mem, fun t v hv => ?_, hh.size, hh.defers, hh.keep, hh.fresh, hh.avoid0, hh.hm, hh.hmods⟩
    simp only [look_frz, Option.map_eq_some_iff] at hv
    obtain ⟨v0, h4, rfl⟩ := hv
    exact key X T a w hh _ _ (hh.tmp t v0 h4)
  · intro j x hj hx X T a w hh
    obtain ⟨h1, h2, h3⟩ := hh.kill k
    have hx' : (σ.objs.set k none)[j]? = some (some x) := by rw [List.getElem?_set_ne (Ne.symm hj)]; exact hx
    have hlv : ∀ b, Live X.A T ((σ.objs.set k none).set j (some ⟨x.s, x.rows.map (V.frzL k ob)⟩)) b ↔ Live X.A T (σ.objs.set k none) b := live_set hx'
    have hcg : ∀ (q : V) (v : Value), Rep w (Live X.A T (σ.objs.set k none)) T q v → Rep w (Live X.A T ((σ.objs.set k none).set j (some ⟨x.s, x.rows.map (V.frzL k ob)⟩))) T q v := fun q v hq => hq.congr fun b hb => (hlv b).mp hb
    refine ⟨T, h1.pre, ⟨by simp [hh.mem.len], ?_, ?_, hh.mem.avoid⟩, fun t v hv => ?_, hh.size, hh.defers, hh.keep, hh.fresh, hh.avoid0, hh.hm, hh.hmods⟩
    · intro i y hi
      by_cases e : j = i
      · subst e
        rw [List.getElem?_set_self (lt_of_get hx')] at hi
        injection hi with hi
        injection hi with hi
        subst hi
        obtain ⟨b, g1, g2, C, t, g3, g4, g5⟩ := hh.mem.obj j x hx
        refine ⟨b, g1, g2, C, t, g3, fun row hrow => ?_, fun r row hr c q hq => ?_⟩
        · simp only [List.mem_map] at hrow
          obtain ⟨row', hr', rfl⟩ := hrow
          rw [V.frzL_eq]
          refine ⟨by simpa using (g4 row' hr').1, fun q hq => ?_⟩
          obtain ⟨q', hq', rfl⟩ := List.mem_map.mp hq
          rw [V.frz_one]
          exact (g4 row' hr').2 q' hq'
        · simp only [List.getElem?_map, Option.map_eq_some_iff] at hr
          obtain ⟨row', hr', rfl⟩ := hr
          rw [V.frzL_eq, List.getElem?_map] at hq
          simp only [Option.map_eq_some_iff] at hq
          obtain ⟨q', hq', rfl⟩ := hq
          obtain ⟨v, g6, g7⟩ := g5 r row' hr' c q' hq'
          exact ⟨v, g6, hcg _ _ (key X T a w hh _ _ g7)⟩
      · rw [List.getElem?_set_ne e] at hi
        obtain ⟨b, g1, g2, C, t, g3, g4, g5⟩ := h1.mem.obj i y hi
        refine ⟨b, g1, g2, C, t, g3, g4, fun r row hr c q hq => ?_⟩
        obtain ⟨v, g6, g7⟩ := g5 r row hr c q hq
        exact ⟨v, g6, hcg _ _ g7⟩
    · intro i i' y z b s s' hi hi'
      have live : ∀ (i : Nat) (y : Ob), ((σ.objs.set k none).set j (some ⟨x.s, x.rows.map (V.frzL k ob)⟩))[i]? = some (some y) → ∃ y', (σ.objs.set k none)[i]? = some (some y') := by
        intro i y hi
        by_cases e : j = i
        · subst e; exact ⟨x, hx'⟩
        · rw [List.getElem?_set_ne e] at hi; exact ⟨y, hi⟩
      obtain ⟨y', hy'⟩ := live i y hi
      obtain ⟨z', hz'⟩ := live i' z hi'
      exact h1.mem.inj i i' y' z' b s s' hy' hz'
    · simp only [look_frz, Option.map_eq_some_iff] at hv
      obtain ⟨v0, h4, rfl⟩ := hv
      exact hcg _ _ (key X T a w hh _ _ (hh.tmp t v0 h4))

end Go.Proofs.Ytohchoelhnipmaa.Q
