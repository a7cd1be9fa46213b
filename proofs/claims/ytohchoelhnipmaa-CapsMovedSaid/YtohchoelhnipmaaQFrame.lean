/- A call within a state: what the callee is handed, and what has become of the caller's state behind it. -/
import Derived.Test.YtohchoelhnipmaaQCall
namespace Go.Proofs.Ytohchoelhnipmaa.Q
open Go Go.RowKit
set_option linter.unusedSimpArgs false
set_option linter.unusedVariables false

variable {P : Program} {σ : St} {K : Ex → St → Prop}

theorem Rep.congr {w : World} {L L' : Nat → Prop} {T : Tab} {q : V} {v : Value} (h : Rep w L T q v) (hL : ∀ b, L' b → L b) : Rep w L' T q v :=
  h.later (Nat.le_refl _) (fun _ _ _ => rfl) (fun b _ hn hl => hn (hL b hl)) (fun _ C _ hc => ⟨C, hc, rfl⟩) (fun _ _ h => h)

theorem mapL_get (e : Nat → Nat) (l : List V) (i : Nat) : (V.mapL e l)[i]? = (l[i]?).map (V.map e) := by rw [V.mapL_eq, List.getElem?_map]

/-- What a callee is handed. -/
structure Hand (σ : St) (g : List Nat) (O : Objs) (mods : List Nat) : Prop where
  nodup : g.Nodup
  len : O.length = g.length
  obj : ∀ (i j : Nat), g[i]? = some j → ∃ ob : Ob, O[i]? = some (some ob) ∧ σ.objs[j]? = some (some (ob.map (emb g σ.objs.length))) ∧ ob.idsLt g.length
  mods : ∀ k ∈ mods, ∃ j, g[k]? = some j ∧ may σ j = true

def handT (T : Tab) (g : List Nat) : Tab := g.map fun j => T.getD j (0, 0)
def handA (A : Nat → Prop) (T : Tab) (objs : Objs) (g : List Nat) (b : Nat) : Prop := Live A T objs b ∧ ¬ ∃ (i s : Nat), (handT T g)[i]? = some (b, s)

section
variable {X : Ctx} {T : Tab} {a : Act} {w : World} {g : List Nat} {O : Objs} {mods : List Nat}

theorem hand_at (h : HoldsT X T σ a w) (hg : Hand σ g O mods) {i j : Nat} (hi : g[i]? = some j) :
    ∃ (b : Nat) (ob : Ob), (handT T g)[i]? = some (b, ob.s) ∧ T[j]? = some (b, ob.s) ∧ O[i]? = some (some ob) ∧ σ.objs[j]? = some (some (ob.map (emb g σ.objs.length))) ∧ ob.idsLt g.length ∧ ¬ X.A b := by
  obtain ⟨ob, h1, h2, h3⟩ := hg.obj i j hi
  obtain ⟨b, h4, h5, _⟩ := h.mem.obj j _ h2
  refine ⟨b, ob, ?_, h4, h1, h2, h3, h5⟩
  simp only [handT, List.getElem?_map, hi, Option.map_some, List.getD, h4, Option.getD_some]
  rfl

theorem hand_inv (h : HoldsT X T σ a w) (hg : Hand σ g O mods) {i b s : Nat} (hi : (handT T g)[i]? = some (b, s)) :
    ∃ (j : Nat) (ob : Ob), g[i]? = some j ∧ T[j]? = some (b, ob.s) ∧ O[i]? = some (some ob) ∧ σ.objs[j]? = some (some (ob.map (emb g σ.objs.length))) ∧ ¬ X.A b ∧ s = ob.s := by
  have hlt := lt_tab hi
  simp [handT] at hlt
  have hj : g[i]? = some g[i] := List.getElem?_eq_getElem hlt
  obtain ⟨b', ob, h1, h2, h3, h4, h5, h6⟩ := hand_at h hg hj
  rw [hi] at h1
  injection h1 with h1
  injection h1 with e1 e2
  subst e1
  exact ⟨g[i], ob, hj, h2, h3, h4, h6, e2⟩

theorem hand_live (h : HoldsT X T σ a w) (hg : Hand σ g O mods) (b : Nat) : Live (handA X.A T σ.objs g) (handT T g) O b ↔ Live X.A T σ.objs b := by
  constructor
  · rintro (h1 | ⟨k, ob, s, h1, h2⟩)
    · exact h1.1
    · obtain ⟨j, ob', _, h3, _, h5, _⟩ := hand_inv h hg h2
      exact .inr ⟨j, _, _, h5, h3⟩
  · intro hl
    by_cases hx : ∃ (i s : Nat), (handT T g)[i]? = some (b, s)
    · obtain ⟨i, s, hi⟩ := hx
      obtain ⟨j, ob', _, _, h4, _⟩ := hand_inv h hg hi
      exact .inr ⟨i, ob', s, h4, hi⟩
    · exact .inl ⟨hl, hx⟩

theorem live_lt (h : HoldsT X T σ a w) {b : Nat} (hb : Live X.A T σ.objs b) : b < w.heap.size := by
  rcases hb with hA | ⟨k, ob, s, h1, h2⟩
  · exact h.mem.avoid b hA
  · obtain ⟨b', h3, _, C, t, h4, _⟩ := h.mem.obj k ob h1
    rw [h2] at h3
    cases h3
    exact lt_heap h4

theorem emb_lt {n i : Nat} {j : Nat} (hi : g[i]? = some j) : emb g n i = j := by
  have := lt_of_get hi
  unfold emb
  rw [if_pos this, List.getD, hi]
  rfl

theorem hand_tab (h : HoldsT X T σ a w) (hg : Hand σ g O mods) (k : Nat) (hk : k < g.length) : (handT T g)[k]? = T[emb g σ.objs.length k]? := by
  obtain ⟨b, ob, h1, h2, _⟩ := hand_at h hg (List.getElem?_eq_getElem hk)
  rw [emb_lt (List.getElem?_eq_getElem hk), h1, h2]

theorem hand_mem (h : HoldsT X T σ a w) (hg : Hand σ g O mods) : HoldsM w (handA X.A T σ.objs g) (handT T g) O := by
  refine ⟨by simp [handT, hg.len], ?_, ?_, fun b hb => live_lt h hb.1⟩
  · intro k ob hk
    have hlt : k < g.length := by have := lt_of_get hk; rw [hg.len] at this; exact this
    obtain ⟨b, ob', h1, h2, h3, h4, h5, h6⟩ := hand_at h hg (List.getElem?_eq_getElem hlt)
    rw [hk] at h3
    injection h3 with h3
    injection h3 with h3
    subst h3
    refine ⟨b, h1, fun hA => hA.2 ⟨k, _, h1⟩, ?_⟩
    obtain ⟨b', g1, _, C, t, g2, g3, g4⟩ := h.mem.obj _ _ h4
    rw [h2] at g1
    injection g1 with g1
    injection g1 with g1 _
    subst g1
    refine ⟨C, t, g2, fun row hrow => ?_, fun r row hr c q hq => ?_⟩
    · have := g3 (V.mapL (emb g σ.objs.length) row) (List.mem_map.mpr ⟨row, hrow, rfl⟩)
      rw [V.mapL_eq] at this
      refine ⟨by simpa [Ob.map] using this.1, fun q hq => ?_⟩
      rw [← V.map_one (emb g σ.objs.length) q]
      exact this.2 _ (List.mem_map.mpr ⟨q, hq, rfl⟩)
    · obtain ⟨v, h7, h8⟩ := g4 r (V.mapL (emb g σ.objs.length) row) (by simp [Ob.map, hr]) c (q.map (emb g σ.objs.length)) (by rw [mapL_get, hq]; rfl)
      refine ⟨v, h7, (Rep.down (hand_tab h hg) q v ?_ h8).congr (fun b hb => (hand_live h hg b).mp hb)⟩
      exact h5 row (List.mem_of_getElem? hr) q (List.mem_of_getElem? hq)
  · intro i j x y b s s' hi hj hbi hbj
    obtain ⟨i', x', h1, h2, _, h3, _⟩ := hand_inv h hg hbi
    obtain ⟨j', y', h4, h5, _, h6, _⟩ := hand_inv h hg hbj
    have := h.mem.inj i' j' _ _ b _ _ h3 h6 h2 h5
    subst this
    exact (List.getElem?_inj (lt_of_get h1) hg.nodup).mp (by rw [h1, h4])

theorem hand_mof (h : HoldsT X T σ a w) (hg : Hand σ g O mods) {b : Nat} (hb : Mof (handT T g) mods b) :
    Live X.A T σ.objs b ∧ (X.w0.heap.size ≤ b ∨ X.M b) ∧ ∃ (k j s : Nat) (ob : Ob), k ∈ mods ∧ g[k]? = some j ∧ σ.objs[j]? = some (some ob) ∧ T[j]? = some (b, s) := by
  obtain ⟨k, s, h1, h2⟩ := hb
  obtain ⟨j, ob, h3, h4, h5, h6, _⟩ := hand_inv h hg h2
  obtain ⟨j', h7, h8⟩ := hg.mods k h1
  rw [h3] at h7
  cases h7
  exact ⟨.inr ⟨j, _, _, h6, h4⟩, may_spec h h8 h4, k, j, _, _, h1, h3, h6, h4⟩

/-- What has become of the state. -/
theorem HoldsT.back (h : HoldsT X T σ a w) (hg : Hand σ g O mods) {w' : World} {T2 : Tab} {O2 : Objs} (hT2 : ∀ (k : Nat) (p : Nat × Nat), (handT T g)[k]? = some p → T2[k]? = some p)
    (h2 : HoldsM w' (handA X.A T σ.objs g) T2 O2) (hk : Keep (Mof (handT T g) mods) w w')
    (hf : ∀ (k b s : Nat), (handT T g).length ≤ k → T2[k]? = some (b, s) → w.heap.size ≤ b ∨ Mof (handT T g) mods b) :
    HoldsT X (T ++ T2.drop g.length) { σ with objs := backObjs σ.objs g O2 } a w' ∧
    (∀ (q : V) (v : Value), Rep w' (Live (handA X.A T σ.objs g) T2 O2) T2 q v →
      Rep w' (Live X.A (T ++ T2.drop g.length) (backObjs σ.objs g O2)) (T ++ T2.drop g.length) (q.map (emb g σ.objs.length)) v) ∧
    (∀ rm : List Nat, (∀ k ∈ mods, ∀ j, g[k]? = some j → j ∈ rm) → Stab (rmB T σ.objs rm) w w' ∧
      ∀ b, b < w.heap.size → rmB (T ++ T2.drop g.length) (backObjs σ.objs g O2) rm b → rmB T σ.objs rm b) := by
  have hTl := h.mem.len
  have hn : (handT T g).length = g.length := by simp [handT]
  have hT2l : g.length ≤ T2.length := by
    rcases Nat.eq_zero_or_pos g.length with e | e
    · omega
    · have : (handT T g)[g.length - 1]? = some (handT T g)[g.length - 1] := List.getElem?_eq_getElem (by omega)
      have := lt_tab (hT2 _ _ this)
      omega
  have hO2l := h2.len
  -- the table upwards
  have hup : ∀ (k : Nat) (p : Nat × Nat), T2[k]? = some p → (T ++ T2.drop g.length)[emb g σ.objs.length k]? = some p := by
    intro k p hp
    rcases Nat.lt_or_ge k g.length with hlt | hge
    · obtain ⟨b, ob, h1, h3, _⟩ := hand_at h hg (List.getElem?_eq_getElem hlt)
      rw [hT2 k _ h1] at hp
      rw [emb_lt (List.getElem?_eq_getElem hlt), List.getElem?_append_left (lt_tab h3), h3]
      exact hp
    · have : emb g σ.objs.length k = T.length + (k - g.length) := by simp [emb, Nat.not_lt.mpr hge, hTl]
      rw [this, List.getElem?_append_right (by omega), List.getElem?_drop]
      rw [show g.length + (T.length + (k - g.length) - T.length) = k by omega]
      exact hp
  -- which objects are alive
  have hlive : ∀ (j : Nat) (x : Ob), (backObjs σ.objs g O2)[j]? = some (some x) →
      (j ∉ g ∧ σ.objs[j]? = some (some x)) ∨ ∃ (k : Nat) (y : Ob), j = emb g σ.objs.length k ∧ O2[k]? = some (some y) ∧ x = y.map (emb g σ.objs.length) := by
    intro j x hj
    unfold backObjs at hj
    rcases Nat.lt_or_ge j σ.objs.length with hlt | hge
    · rw [List.getElem?_append_left (by rw [setAll_length]; exact hlt)] at hj
      by_cases hm : j ∈ g
      · obtain ⟨i, hi⟩ := List.getElem?_of_mem hm
        rw [setAll_at _ g σ.objs O2 i j hg.nodup hi hlt (by have := lt_of_get hi; omega)] at hj
        simp only [Option.map_eq_some_iff] at hj
        obtain ⟨o, h3, h4⟩ := hj
        obtain ⟨y, rfl, h6⟩ := h4
        exact .inr ⟨i, y, (emb_lt hi).symm, h3, h6.symm⟩
      · rw [setAll_other _ g σ.objs O2 j hm] at hj
        exact .inl ⟨hm, hj⟩
    · rw [List.getElem?_append_right (by rw [setAll_length]; exact hge), setAll_length, List.getElem?_map, List.getElem?_drop] at hj
      simp only [Option.map_eq_some_iff] at hj
      obtain ⟨o, h3, h4⟩ := hj
      obtain ⟨y, rfl, h6⟩ := h4
      exact .inr ⟨g.length + (j - σ.objs.length), y, by unfold emb; rw [if_neg (by omega)]; omega, h3, h6.symm⟩
  -- an object that was not handed over: its block is to be let alone
  have hother : ∀ (j b s : Nat) (x : Ob), j ∉ g → σ.objs[j]? = some (some x) → T[j]? = some (b, s) → handA X.A T σ.objs g b := by
    intro j b s x hm hj hb
    refine ⟨.inr ⟨j, x, s, hj, hb⟩, fun ⟨i, s', hi⟩ => ?_⟩
    obtain ⟨j', ob, h3, h4, _, h6, _⟩ := hand_inv h hg hi
    have := h.mem.inj j j' _ _ b _ _ hj h6 hb h4
    subst this
    exact hm (List.mem_of_getElem? h3)
  have hA1 : ∀ b, X.A b → handA X.A T σ.objs g b := fun b hb => ⟨.inl hb, fun ⟨i, s, hi⟩ => by
    obtain ⟨_, _, _, _, _, _, h3, _⟩ := hand_inv h hg hi
    exact h3 hb⟩
  have hold : ∀ (j : Nat) (p : Nat × Nat), T[j]? = some p → (T ++ T2.drop g.length)[j]? = some p := fun j p hp => by
    rw [List.getElem?_append_left (lt_tab hp)]; exact hp
  have hl3 : ∀ b, Live X.A (T ++ T2.drop g.length) (backObjs σ.objs g O2) b → Live (handA X.A T σ.objs g) T2 O2 b := by
    rintro b (hA | ⟨j, x, s, h3, h4⟩)
    · exact .inl (hA1 b hA)
    · rcases hlive j x h3 with ⟨hm, hj⟩ | ⟨k, y, rfl, hy, rfl⟩
      · have hlt := lt_of_get hj
        rw [List.getElem?_append_left (by omega)] at h4
        exact .inl (hother j b s x hm hj h4)
      · obtain ⟨b2, h5, _⟩ := h2.obj k y hy
        rw [hup k _ h5] at h4
        cases h4
        exact .inr ⟨k, y, _, hy, h5⟩
  have hl2 : ∀ b, b < w.heap.size → Live (handA X.A T σ.objs g) T2 O2 b → Live X.A T σ.objs b := by
    rintro b hb (hA | ⟨k, y, s, h3, h4⟩)
    · exact hA.1
    · rcases Nat.lt_or_ge k g.length with hlt | hge
      · obtain ⟨b', ob, h5, h6, _, h7, _⟩ := hand_at h hg (List.getElem?_eq_getElem hlt)
        rw [hT2 k _ h5] at h4
        cases h4
        exact .inr ⟨_, _, _, h7, h6⟩
      · rcases hf k b s (by omega) h4 with h5 | h5
        · omega
        · exact (hand_mof h hg h5).1
  have hblock : ∀ b, b < w.heap.size → ¬ Live X.A T σ.objs b → w'.heap[b]? = w.heap[b]? := fun b hb hnl => hk.block b hb fun hm => hnl (hand_mof h hg hm).1
  have hrep : ∀ (q : V) (v : Value), Rep w (Live X.A T σ.objs) T q v → Rep w' (Live X.A (T ++ T2.drop g.length) (backObjs σ.objs g O2)) (T ++ T2.drop g.length) q v :=
    fun q v hq => hq.later hk.size hblock (fun b hb hnl h3 => hnl (hl2 b hb (hl3 b h3))) hk.shape hold
  have hrep2 : ∀ (q : V) (v : Value), Rep w' (Live (handA X.A T σ.objs g) T2 O2) T2 q v →
      Rep w' (Live X.A (T ++ T2.drop g.length) (backObjs σ.objs g O2)) (T ++ T2.drop g.length) (q.map (emb g σ.objs.length)) v :=
    fun q v hq => (hq.up hup).congr hl3
  refine ⟨⟨fun k p hp => hold k p (h.pre k p hp), ⟨?_, ?_, ?_, ?_⟩, fun t v hv => hrep _ _ (h.tmp t v hv), h.size, h.defers, ?_, ?_, h.avoid0, h.hm, h.hmods⟩, hrep2, ?_⟩
  · simp [backObjs, setAll_length, hTl, hO2l]
  · intro j x hj
    rcases hlive j x hj with ⟨hm, hj'⟩ | ⟨k, y, rfl, hy, rfl⟩
    · obtain ⟨b, h3, h4, C, t, h5, h6, h7⟩ := h.mem.obj j x hj'
      have hAb := hother j b x.s x hm hj' h3
      have hheap : w'.heap[b]? = w.heap[b]? := hk.block b (lt_heap h5) fun ⟨k, s, _, hk'⟩ => hAb.2 ⟨k, s, hk'⟩
      refine ⟨b, hold _ _ h3, h4, C, t, by rw [hheap]; exact h5, h6, fun r row hr c q hq => ?_⟩
      obtain ⟨v, h8, h9⟩ := h7 r row hr c q hq
      exact ⟨v, h8, hrep _ _ h9⟩
    · obtain ⟨b, h3, h4, C, t, h5, h6, h7⟩ := h2.obj k y hy
      refine ⟨b, hup _ _ h3, fun hA => h4 (hA1 b hA), C, t, h5, fun row hrow => ?_, fun r row hr c q hq => ?_⟩
      · simp only [Ob.map, List.mem_map] at hrow
        obtain ⟨row', hr', rfl⟩ := hrow
        rw [V.mapL_eq]
        refine ⟨by simpa [Ob.map] using (h6 row' hr').1, fun q hq => ?_⟩
        obtain ⟨q', hq', rfl⟩ := List.mem_map.mp hq
        rw [V.map_one]
        exact (h6 row' hr').2 q' hq'
      · simp only [Ob.map, List.getElem?_map, Option.map_eq_some_iff] at hr
        obtain ⟨row', hr', rfl⟩ := hr
        rw [mapL_get] at hq
        simp only [Option.map_eq_some_iff] at hq
        obtain ⟨q', hq', rfl⟩ := hq
        obtain ⟨v, h8, h9⟩ := h7 r row' hr' c q' hq'
        exact ⟨v, h8, hrep2 _ _ h9⟩
  · intro i j x y b s s' hi hj hbi hbj
    have blk : ∀ (k : Nat) (y : Ob) (s : Nat), O2[k]? = some (some y) → (T ++ T2.drop g.length)[emb g σ.objs.length k]? = some (b, s) → T2[k]? = some (b, y.s) ∧ ¬ handA X.A T σ.objs g b := by
      intro k y s hy hb
      obtain ⟨b2, h3, h4, _⟩ := h2.obj k y hy
      rw [hup k _ h3] at hb
      cases hb
      exact ⟨h3, h4⟩
    have old : ∀ (j : Nat) (x : Ob) (s : Nat), σ.objs[j]? = some (some x) → (T ++ T2.drop g.length)[j]? = some (b, s) → T[j]? = some (b, s) := by
      intro j x s hj hb
      have hlt := lt_of_get hj
      rw [List.getElem?_append_left (by omega)] at hb
      exact hb
    rcases hlive i x hi with ⟨hm, hi'⟩ | ⟨k, z, rfl, hz, rfl⟩ <;> rcases hlive j y hj with ⟨hm', hj'⟩ | ⟨k', z', rfl, hz', rfl⟩
    · exact h.mem.inj i j x y b _ _ hi' hj' (old i x s hi' hbi) (old j y s' hj' hbj)
    · exact absurd (hother i b s x hm hi' (old i x s hi' hbi)) (blk k' z' s' hz' hbj).2
    · exact absurd (hother j b s' y hm' hj' (old j y s' hj' hbj)) (blk k z s hz hbi).2
    · rw [h2.inj k k' z z' b _ _ hz hz' (blk k z s hz hbi).1 (blk k' z' s' hz' hbj).1]
  · intro b hb
    exact Nat.lt_of_lt_of_le (h.mem.avoid b hb) hk.size
  · have hk0 := h.keep
    refine ⟨hk.os.trans hk0.os, hk.tape.trans hk0.tape, hk.output.trans hk0.output, Nat.le_trans hk0.size hk.size, fun b hb hM => ?_, fun b C t hb => ?_⟩
    · rw [hk.block b (Nat.lt_of_lt_of_le hb hk0.size) (fun hm => by
        rcases (hand_mof h hg hm).2.1 with h3 | h3
        · omega
        · exact hM h3)]
      exact hk0.block b hb hM
    · obtain ⟨C1, h3, h4⟩ := hk0.shape b C t hb
      obtain ⟨C2, h5, h6⟩ := hk.shape b C1 t h3
      exact ⟨C2, h5, h6.trans h4⟩
  · intro k b s hk' hb
    rcases Nat.lt_or_ge k T.length with hlt | hge
    · rw [List.getElem?_append_left hlt] at hb
      exact h.fresh k b s hk' hb
    · rw [List.getElem?_append_right hge, List.getElem?_drop] at hb
      rcases hf _ b s (by omega) hb with h3 | h3
      · have := h.keep.size; exact .inl (by omega)
      · exact (hand_mof h hg h3).2.1
  · intro rm hrm
    refine ⟨⟨hk.size, fun b hb hnr => hk.block b hb fun hm => ?_⟩, fun b hb hr => ?_⟩
    · obtain ⟨_, _, k, j, s, ob, h3, h4, h5, h6⟩ := hand_mof h hg hm
      exact hnr ⟨j, ob, s, hrm k h3 j h4, h5, h6⟩
    · obtain ⟨j, x, s, h3, h4, h5⟩ := hr
      rcases Nat.lt_or_ge j T.length with hlt | hge
      · rw [List.getElem?_append_left hlt] at h5
        rcases hlive j x h4 with ⟨hm, hj'⟩ | ⟨k, z, e, hz, rfl⟩
        · exact ⟨j, x, s, h3, hj', h5⟩
        · rcases Nat.lt_or_ge k g.length with hk1 | hk1
          · rw [emb_lt (List.getElem?_eq_getElem hk1)] at e
            obtain ⟨_, ob, _, _, _, h6, _⟩ := hand_at h hg (List.getElem?_eq_getElem hk1)
            rw [← e] at h6
            exact ⟨j, _, s, h3, h6, h5⟩
          · simp [emb, Nat.not_lt.mpr hk1] at e
            omega
      · rw [List.getElem?_append_right hge, List.getElem?_drop] at h5
        rcases hf _ b s (by omega) h5 with h6 | h6
        · omega
        · obtain ⟨_, _, k, j', s', ob, h7, h8, h9, h10⟩ := hand_mof h hg h6
          exact ⟨j', ob, s', hrm k h7 j' h8, h9, h10⟩

end

/-- The callee of a call: a function, and what it has captured. -/
theorem qo_call {rm : List Nat} {o : Oper} {f : Operand} {args : Array Operand} {ats : Array TypeId} {fid : FuncId} {fn : Func} {caps l args' : List V} {g : List Nat} {O : Objs} {mods : List Nat}
    {R : Out → Objs → Prop} {N : St → Prop} (ho : o.op = .call { callee := .value f, args := args, argTypes := ats }) (hf : evalV σ f = some (.fn (.func fid) caps)) (hl : evalL σ args.toList = some l)
    (hfn : P.funcs[fid]? = some fn) (hb : fn.body.isNone = false) (hn : (fn.name == "runtime.NumGoroutine") = false)
    (hargs : l ++ caps = V.mapL (emb g σ.objs.length) args') (hids : V.idsLtL g.length args' = true) (hg : Hand σ g O mods) (hrm : ∀ k ∈ mods, ∀ j, g[k]? = some j → j ∈ rm)
    (hc : QCalls P fid args' O mods R) (hd : dstOK o σ = true)
    (hret : ∀ v O2, R (.ret v) O2 → N (({ σ with objs := backObjs σ.objs g O2 } : St).put o.dst (v.map (emb g σ.objs.length))))
    (hpanic : ∀ v O2, R (.panic v) O2 → K (.panic (v.map (emb g σ.objs.length))) ⟨0, [], backObjs σ.objs g O2, σ.m, σ.mods⟩) : QO P rm o σ N K := by
  intro X T a w hh
  obtain ⟨vs, e1, hvs, hcap⟩ := rep_fn (eval_rep hh hf)
  obtain ⟨hl1, hl2⟩ := evalL_some hl
  have hrun : (execOp a.eval o).run P w = .ok (.enter fid (args.map a.eval ++ vs)) w := by
    simp [execOp, ho, resolve, e1, Deferred.ofValue, invoke, enters hfn hb hn]
  unfold Oper.wp
  rw [hrun]
  have hsz : (args.map a.eval ++ vs).size = args'.length := by
    have := congrArg List.length hargs
    rw [V.mapL_eq] at this
    simp at this
    simp at hl1
    simp [hvs]
    omega
  have hvals : ∀ (i : Nat) (q : V), args'[i]? = some q → Rep w (Live (handA X.A T σ.objs g) (handT T g) O) (handT T g) q ((args.map a.eval ++ vs).getD i undef) := by
    intro i q hq
    have hi : (l ++ caps)[i]? = some (q.map (emb g σ.objs.length)) := by rw [hargs, mapL_get, hq]; rfl
    have hr : Rep w (Live X.A T σ.objs) T (q.map (emb g σ.objs.length)) ((args.map a.eval ++ vs).getD i undef) := by
      rcases Nat.lt_or_ge i l.length with hlt | hge
      · rw [List.getElem?_append_left hlt] at hi
        obtain ⟨x, h3, h4⟩ := hl2 i _ hi
        have h5 : (args.map a.eval ++ vs)[i]? = some (a.eval x) := by
          rw [Array.getElem?_append_left (by simp at hl1; simp; omega)]
          simp at h3
          simp [h3]
        rw [getD_of h5]
        exact eval_rep hh h4
      · rw [List.getElem?_append_right hge] at hi
        have h3 := hcap _ _ hi
        have hlt := lt_of_some hi
        obtain ⟨y, hy⟩ : ∃ y, vs[i - l.length]? = some y := ⟨_, Array.getElem?_eq_getElem (by omega)⟩
        rw [getD_of hy] at h3
        have h5 : (args.map a.eval ++ vs)[i]? = some y := by
          simp at hl1
          rw [Array.getElem?_append_right (by simp; omega)]
          simp
          rw [← hl1]
          exact hy
        rw [getD_of h5]
        exact h3
    have hlt := lt_of_some hq
    have hidq : q.idsLt g.length = true := by
      rw [V.idsLtL_eq, List.all_eq_true] at hids
      exact hids q (List.mem_of_getElem? hq)
    exact (Rep.down (hand_tab hh hg) q _ hidq hr).congr fun b hb => (hand_live hh hg b).mp hb
  rw [Oper.upon_enter]
  refine (hc w _ _ _ (hand_mem hh hg) hsz hvals).mono ?_
  rintro e w' ⟨out, O2, T2, h1, h2, h3, h4, h5, h6⟩
  obtain ⟨b1, b2, b3⟩ := hh.back hg h2 h3 h5 h6
  obtain ⟨b4, b5⟩ := b3 rm hrm
  cases out with
  | ret v =>
    cases e with
    | returned x =>
      refine ⟨_, _, hret v O2 h1, b1.put (b2 v x h4) (dstOK_spec (σ := σ) hd), b4, ?_⟩
      rw [put_objs]
      exact b5
    | panicked c => exact h4.elim
    | outgrown => exact h4.elim
  | panic v =>
    cases e with
    | returned x => exact h4.elim
    | panicked c =>
      obtain ⟨x, hx, hrx⟩ := h4
      refine ⟨b1.defers, _, backObjs σ.objs g O2, v.map (emb g σ.objs.length), x, hx, ?_, b2 v x hrx, ?_⟩
      · rw [hh.hm, hh.hmods]
        exact hpanic v O2 h1
      · exact ⟨b1.pre, b1.mem, fun t v hv => by simp [look] at hv, rfl, rfl, b1.keep, b1.fresh, b1.avoid0, rfl, rfl⟩
    | outgrown => exact h4.elim

end Go.Proofs.Ytohchoelhnipmaa.Q
