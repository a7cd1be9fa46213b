/- Texts of this claim, one behind the other. -/
import Derived.Test.YtibmbbogjkecoaaDoorX2PatMany
import Derived.Test.YtibmbbogjkecoaaDoorProg
import Derived.KernelRfl
import Derived.Laws.StandIn
/- A call may be looked at with the objects alone that it is about: what it makes afresh goes out as what nobody writes. -/
namespace Go.Proofs.YtibmbbogjkecoaaDoor.M
open Go Go.RowKit
set_option linter.unusedSimpArgs false
set_option linter.unusedVariables false

variable {ρ : Nat → Value} {P : Program}

/-- Of one cell: as it is, or the rows of an object of N that was made afresh. -/
inductive FrzC (N : Nat → Prop) (O : Objs) : V → V → Prop
  | same (q : V) (h : q.one = true) (hf : q.flat = true) : FrzC N O q q
  | sl (k off len : Nat) (full : Bool) (ob : Ob) (rows : List (List V)) (old : Nat → List V) (hN : N k) (hob : O k = some ob) (hl : rows.length = len)
      (ho : ∀ (r : Nat) (row' : List V), rows[r]? = some row' → ob.row (off + r) = some (old r) ∧ row'.length = (old r).length)
      (h : ∀ (r : Nat) (row' : List V), rows[r]? = some row' → ∀ (c : Nat) (q q' : V), (old r)[c]? = some q → row'[c]? = some q' → FrzC N O q q') :
      FrzC N O (.sl k off len full) (.ro ob.s rows)

/-- Of an answer. -/
inductive Frz (N : Nat → Prop) (O : Objs) : V → V → Prop
  | un (q : V) : Frz N O q .un
  | flat (q : V) (hf : q.flat = true) : Frz N O q q
  | cell {q q' : V} (h : FrzC N O q q') : Frz N O q q'
  | tup (l l' : List V) (hl : l'.length = l.length) (h : ∀ (i : Nat) (q q' : V), l[i]? = some q → l'[i]? = some q' → Frz N O q q') : Frz N O (.tup l) (.tup l')
  | agg (l l' : List V) (hl : l'.length = l.length) (h : ∀ (i : Nat) (q q' : V), l[i]? = some q → l'[i]? = some q' → Frz N O q q') : Frz N O (.agg l) (.agg l')

theorem FrzC.one {N : Nat → Prop} {O : Objs} {q q' : V} (h : FrzC N O q q') : q'.one = true := by
  cases h with
  | same _ h => exact h
  | sl => rfl

theorem FrzC.rep {w : World} {A L' N : Nat → Prop} {T : Tab} {O : Objs} (hm : HoldsM ρ w A T O) (hL : ∀ b, L' b → A b ∨ ∃ (j : Nat) (ob : Ob) (p : Pl), ¬ N j ∧ O j = some ob ∧ T j = some p ∧ p.b = b) :
    ∀ {q q' : V}, FrzC N O q q' → ∀ {v : Value}, Rep ρ w (Live A T O) T q v → RepP ρ w L' q' v := by
  have hL2 : ∀ b, L' b → Live A T O b := fun b h => (hL b h).imp id fun ⟨j, ob, p, _, h1, h2, h3⟩ => ⟨j, ob, p, h1, h2, h3⟩
  intro q q' h
  induction h with
  | same q h1 hf =>
    intro v hr
    exact (repP_flat hr hf).later (Nat.le_refl _) (fun _ _ _ => rfl) fun b _ hn hl => hn (hL2 b hl)
  | sl k off len full ob rows old hN hob hl ho h ih =>
    intro v hr
    obtain ⟨p, at_, cap, hT, ha, hc, hf, ⟨C, t, fr, hC, hroom⟩, rfl⟩ := rep_sl hr
    obtain ⟨p', hT', hA, hs, C', t', hC', hrow⟩ := hm.obj k ob hob
    rw [hT] at hT'
    cases hT'
    rw [hC] at hC'
    cases hC'
    subst hl
    have hb : p.b < w.heap.size := rep_lt hm ⟨k, ob, p, hob, hT, rfl⟩
    have hnL : ¬ L' p.b := by
      intro g
      rcases hL _ g with g | ⟨j, ob2, p2, g1, g2, g3, g4⟩
      · exact hA g
      · have := hm.inj j k ob2 ob p2 p g2 hob g3 hT g4
        subst this
        exact g1 hN
    have cell : ∀ (r : Nat) (row' : List V), rows[r]? = some row' → ∀ (c : Nat) (q' : V), row'[c]? = some q' → ∃ x, C[at_ + (r * ob.s + c)]? = some x ∧ RepP ρ w L' q' x := by
      intro r row' hr' c q' hq'
      obtain ⟨h1, h2⟩ := ho r row' hr'
      obtain ⟨g1, g2, g3⟩ := hrow _ _ h1
      have hlt : c < (old r).length := by rw [← h2]; exact lt_of_get hq'
      obtain ⟨x, g4, g5⟩ := g3 c _ (List.getElem?_eq_getElem hlt)
      have hat : at_ = p.o + off * p.s := by
        rcases ha with e | e
        · have := lt_of_get hr'
          omega
        · exact e
      refine ⟨x, ?_, ih r row' hr' c _ q' (List.getElem?_eq_getElem hlt) hq' g5⟩
      rw [← g4, hat, hs, Nat.add_mul]
      congr 1
      omega
    refine RepP.ro ob.s rows p.b at_ cap (fun r c => (C[at_ + (r * ob.s + c)]?).getD undef) hnL hb hc (fun row' hm' => ?_) (fun r row' hr' c q' hq' => ?_) (fun r row' hr' c q' hq' => ?_)
    · obtain ⟨r, hr', rfl⟩ := List.mem_iff_getElem.mp hm'
      obtain ⟨h1, h2⟩ := ho r _ (List.getElem?_eq_getElem hr')
      obtain ⟨g1, g2, g3⟩ := hrow _ _ h1
      refine ⟨h2.trans g1, fun q' hq' => ?_⟩
      obtain ⟨c, hc', rfl⟩ := List.mem_iff_getElem.mp hq'
      exact (h r _ (List.getElem?_eq_getElem hr') c _ _ (List.getElem?_eq_getElem (by omega)) (List.getElem?_eq_getElem hc')).one
    · obtain ⟨x, h1, h2⟩ := cell r row' hr' c q' hq'
      rw [cell_at hC, h1]
      rfl
    · obtain ⟨x, h1, h2⟩ := cell r row' hr' c q' hq'
      rw [h1]
      exact h2

theorem Frz.rep {w : World} {A L' N : Nat → Prop} {T T' : Tab} {O : Objs} (hm : HoldsM ρ w A T O) (hL : ∀ b, L' b → A b ∨ ∃ (j : Nat) (ob : Ob) (p : Pl), ¬ N j ∧ O j = some ob ∧ T j = some p ∧ p.b = b) :
    ∀ {q q' : V}, Frz N O q q' → ∀ {v : Value}, Rep ρ w (Live A T O) T q v → Rep ρ w L' T' q' v := by
  have hL2 : ∀ b, L' b → Live A T O b := fun b h => (hL b h).imp id fun ⟨j, ob, p, _, h1, h2, h3⟩ => ⟨j, ob, p, h1, h2, h3⟩
  intro q q' h
  induction h with
  | un q => exact fun _ => rep_un
  | flat q hf => exact fun hr => .pure ((repP_flat hr hf).later (Nat.le_refl _) (fun _ _ _ => rfl) fun b _ hn hl => hn (hL2 b hl))
  | cell h => exact fun hr => .pure (h.rep hm hL hr)
  | tup l l' hl h ih =>
    intro v hr
    obtain ⟨vs, rfl, hs, hr⟩ := rep_tup hr
    refine .tup l' vs (by omega) fun i q' hq' => ?_
    have hi : i < l.length := by have := lt_of_get hq'; omega
    exact ih i _ q' (List.getElem?_eq_getElem hi) hq' (hr i _ (List.getElem?_eq_getElem hi))
  | agg l l' hl h ih =>
    intro v hr
    obtain ⟨vs, rfl, hs, hr⟩ := rep_agg hr
    refine .agg l' vs (by omega) fun i q' hq' => ?_
    have hi : i < l.length := by have := lt_of_get hq'; omega
    exact ih i _ q' (List.getElem?_eq_getElem hi) hq' (hr i _ (List.getElem?_eq_getElem hi))

/-- Of an object. -/
structure FrzOb (N : Nat → Prop) (O : Objs) (ob ob' : Ob) : Prop where
  s : ob'.s = ob.s
  rows : ∀ (r : Nat) (row' : List V), ob'.row r = some row' → ∃ row, ob.row r = some row ∧ row'.length = row.length ∧ ∀ (c : Nat) (q q' : V), row[c]? = some q → row'[c]? = some q' → FrzC N O q q'

inductive FrzOut (N : Nat → Prop) (O : Objs) : Out → Out → Prop
  | ret {v v' : V} (h : Frz N O v v') : FrzOut N O (.ret v) (.ret v')
  | panic {v v' : V} (h : Frz N O v v') : FrzOut N O (.panic v) (.panic v')

/-- An object whose cells hold no objects. -/
def Ob.flat (ob : Ob) : Prop := ∀ (r : Nat) (row : List V), ob.row r = some row → ∀ q ∈ row, q.flat = true

/-- Objects laid over others. -/
def putL : List Nat → List Ob → Objs → Objs
  | k :: κ, ob :: obs, O => Objs.put (putL κ obs O) k (some ob)
  | _, _, O => O

theorem putL_out : ∀ {κ : List Nat} {obs : List Ob} {O : Objs} {k : Nat}, k ∉ κ → putL κ obs O k = O k
  | [], _, _, _, _ => rfl
  | _ :: _, [], _, _, _ => rfl
  | j :: κ, ob :: obs, O, k, h => by
    show Objs.put (putL κ obs O) j (some ob) k = _
    unfold Objs.put
    rw [if_neg (fun e => h (by rw [e]; exact List.mem_cons_self))]
    exact putL_out fun g => h (List.mem_cons_of_mem _ g)

theorem putL_in : ∀ {κ : List Nat} {obs : List Ob} {O : Objs} {i k : Nat}, κ.Nodup → obs.length = κ.length → κ[i]? = some k → putL κ obs O k = obs[i]?
  | [], _, _, _, _, _, _, h => by simp at h
  | _ :: _, [], _, _, _, _, h, _ => by simp at h
  | j :: κ, ob :: obs, O, i, k, hn, hl, h => by
    show Objs.put (putL κ obs O) j (some ob) k = _
    unfold Objs.put
    rw [List.nodup_cons] at hn
    cases i with
    | zero =>
      simp at h
      subst h
      rw [if_pos rfl]
      rfl
    | succ i =>
      have h : κ[i]? = some k := by simpa using h
      have hmem : k ∈ κ := List.mem_of_getElem? h
      rw [if_neg (fun e => hn.1 (by rw [← e]; exact hmem))]
      exact putL_in hn.2 (by simpa using hl) h

theorem nodup_inj : ∀ {l : List Nat} {i j k : Nat}, l.Nodup → l[i]? = some k → l[j]? = some k → i = j
  | [], i, j, k, _, h, _ => by simp at h
  | x :: l, i, j, k, hn, h1, h2 => by
    rw [List.nodup_cons] at hn
    cases i with
    | zero =>
      cases j with
      | zero => rfl
      | succ j =>
        simp at h1 h2
        subst h1
        exact (hn.1 (List.mem_of_getElem? h2)).elim
    | succ i =>
      cases j with
      | zero =>
        simp at h1 h2
        subst h2
        exact (hn.1 (List.mem_of_getElem? h1)).elim
      | succ j =>
        simp at h1 h2
        rw [nodup_inj hn.2 h1 h2]

/-- An argument, inside and outside. -/
inductive Arg2 (κ : List Nat) : V → V → Prop
  | flat (q : V) (h : q.flat = true) : Arg2 κ q q
  | fn (f : FuncId) : Arg2 κ (.fn f []) (.fn f [])
  | ptr (i k r c : Nat) (h : κ[i]? = some k) : Arg2 κ (.ptr i r c) (.ptr k r c)
  | sl (i k off len : Nat) (full : Bool) (h : κ[i]? = some k) : Arg2 κ (.sl i off len full) (.sl k off len full)
  | agg (l l' : List V) (hl : l'.length = l.length) (h : ∀ (i : Nat) (q q' : V), l[i]? = some q → l'[i]? = some q' → Arg2 κ q q') : Arg2 κ (.agg l) (.agg l')

/-- What is said inside of an end. -/
def Inner (n : Nat) (R : Out → List Ob → Prop) (o : Out) (O : Objs) (m : Nat) : Prop :=
  ∃ (o' : Out) (obs' : List Ob), FrzOut (fun j => n ≤ j) O o o' ∧ obs'.length = n ∧ (∀ (i : Nat) (ob' : Ob), obs'[i]? = some ob' → ∃ ob, O i = some ob ∧ FrzOb (fun j => n ≤ j) O ob ob') ∧ R o' obs'

theorem frame {f : FuncId} {args args' : List V} {κ : List Nat} {obs : List Ob} {fi : CellP} {R : Out → List Ob → Prop} (hκ : κ.Nodup) (hlen : obs.length = κ.length) (hflat : ∀ ob ∈ obs, ob.flat)
    (hargs : args'.length = args.length ∧ ∀ (i : Nat) (q q' : V), args[i]? = some q → args'[i]? = some q' → Arg2 κ q q')
    (h : QCalls ρ P f args (fun i => obs[i]?) obs.length fi (Inner obs.length R)) {objs : Objs} {next : Nat} {forb : CellP}
    (ho : ∀ (i k : Nat), κ[i]? = some k → objs k = obs[i]?) (hf : ∀ (i k r c : Nat), κ[i]? = some k → forb k r c → fi i r c) :
    QCalls ρ P f args' objs next forb (fun o O m => ∃ obs', obs'.length = obs.length ∧ R o obs' ∧ O = putL κ obs' objs ∧ m = next) := by
  intro w A T vals hm htop hsz hvals
  have hob : ∀ (i k : Nat), κ[i]? = some k → ∃ ob p, obs[i]? = some ob ∧ objs k = some ob ∧ T k = some p := by
    intro i k hi
    have hlt : i < obs.length := by rw [hlen]; exact lt_of_get hi
    have e := ho i k hi
    rw [List.getElem?_eq_getElem hlt] at e
    obtain ⟨p, hp, _⟩ := hm.obj k _ e
    exact ⟨_, p, List.getElem?_eq_getElem hlt, e, hp⟩
  -- inside: these objects alone; all others are somebody else's
  let A' : Nat → Prop := fun b => A b ∨ ∃ (j : Nat) (ob : Ob) (p : Pl), j ∉ κ ∧ objs j = some ob ∧ T j = some p ∧ p.b = b
  let T' : Tab := fun i => (κ[i]?).bind T
  have hT' : ∀ (i k : Nat), κ[i]? = some k → T' i = T k := fun i k hi => by show (κ[i]?).bind T = _; rw [hi]; rfl
  have hLiveO : ∀ b, LiveO T' (fun i => obs[i]?) b ↔ ∃ (i k : Nat) (ob : Ob) (p : Pl), κ[i]? = some k ∧ objs k = some ob ∧ T k = some p ∧ p.b = b := by
    intro b
    constructor
    · rintro ⟨i, ob, p, h1, h2, h3⟩
      have hlt : i < κ.length := by rw [← hlen]; exact lt_of_get h1
      have hi : κ[i]? = some κ[i] := List.getElem?_eq_getElem hlt
      refine ⟨i, κ[i], ob, p, hi, ?_, ?_, h3⟩
      · rw [ho i _ hi]; exact h1
      · rw [← hT' i _ hi]; exact h2
    · rintro ⟨i, k, ob, p, h1, h2, h3, h4⟩
      exact ⟨i, ob, p, by show obs[i]? = some ob; rw [← ho i k h1]; exact h2, by rw [hT' i k h1]; exact h3, h4⟩
  have hLive : ∀ b, Live A' T' (fun i => obs[i]?) b ↔ Live A T objs b := by
    intro b
    constructor
    · rintro ((g | ⟨j, ob, p, _, h2, h3, h4⟩) | g)
      · exact .inl g
      · exact .inr ⟨j, ob, p, h2, h3, h4⟩
      · obtain ⟨i, k, ob, p, _, h2, h3, h4⟩ := (hLiveO b).mp g
        exact .inr ⟨k, ob, p, h2, h3, h4⟩
    · rintro (g | ⟨k, ob, p, h2, h3, h4⟩)
      · exact .inl (.inl g)
      · by_cases hk : k ∈ κ
        · obtain ⟨i, hi, e⟩ := List.mem_iff_getElem.mp hk
          exact .inr ((hLiveO b).mpr ⟨i, k, ob, p, by rw [List.getElem?_eq_getElem hi, e], h2, h3, h4⟩)
        · exact .inl (.inr ⟨k, ob, p, hk, h2, h3, h4⟩)
  have hLe : Live A' T' (fun i => obs[i]?) = Live A T objs := funext fun b => propext (hLive b)
  have hin : ∀ {i j : Nat} {k : Nat}, κ[i]? = some k → κ[j]? = some k → i = j := by
    intro i j k h1 h2
    exact nodup_inj hκ h1 h2
  have flatP : ∀ (i k : Nat) (ob : Ob) (p : Pl), κ[i]? = some k → objs k = some ob → T k = some p → RepOb ρ w (Live A' T' fun i => obs[i]?) T' p ob := by
    intro i k ob p hi hk hp
    obtain ⟨p', h1, hA, h2, C, t, h3, h4⟩ := hm.obj k ob hk
    rw [hp] at h1
    cases h1
    have hmem : ob ∈ obs := by
      have := ho i k hi
      rw [hk] at this
      exact List.mem_of_getElem? this.symm
    refine ⟨h2, C, t, h3, fun r row hr => ?_⟩
    obtain ⟨g1, g2, g3⟩ := h4 r row hr
    refine ⟨g1, g2, fun c q hq => ?_⟩
    obtain ⟨v, h6, h7⟩ := g3 c q hq
    refine ⟨v, h6, .pure ?_⟩
    rw [hLe]
    exact repP_flat h7 (hflat ob hmem r row hr q (List.mem_of_getElem? hq))
  have hM' : HoldsM ρ w A' T' (fun i => obs[i]?) := by
    refine ⟨fun b hb => ?_, fun i p hp => ?_, fun i ob hi => ?_, fun i j x y p q hi hj hp hq hb => ?_, ?_⟩
    · rcases hb with g | ⟨j, ob, p, _, h2, h3, h4⟩
      · exact hm.avoid b g
      · exact rep_lt hm ⟨j, ob, p, h2, h3, h4⟩
    · have hp : (κ[i]?).bind T = some p := hp
      obtain ⟨k, _, h2⟩ := Option.bind_eq_some_iff.mp hp
      exact hm.low k p h2
    · have hlt : i < κ.length := by rw [← hlen]; exact lt_of_get hi
      have hi' : κ[i]? = some κ[i] := List.getElem?_eq_getElem hlt
      obtain ⟨ob', p, h1, h2, h3⟩ := hob i _ hi'
      rw [hi] at h1
      cases h1
      refine ⟨p, by rw [hT' i _ hi']; exact h3, ?_, flatP i _ ob p hi' h2 h3⟩
      rintro (g | ⟨j, ob2, p2, g1, g2, g3, g4⟩)
      · obtain ⟨p', f1, f2, _⟩ := hm.obj _ _ h2
        rw [h3] at f1
        cases f1
        exact f2 g
      · have := hm.inj j _ ob2 ob p2 p g2 h2 g3 h3 g4
        exact g1 (by rw [this]; exact List.getElem_mem hlt)
    · have l1 : i < κ.length := by rw [← hlen]; exact lt_of_get hi
      have l2 : j < κ.length := by rw [← hlen]; exact lt_of_get hj
      have e1 : κ[i]? = some κ[i] := List.getElem?_eq_getElem l1
      have e2 : κ[j]? = some κ[j] := List.getElem?_eq_getElem l2
      rw [hT' i _ e1] at hp
      rw [hT' j _ e2] at hq
      have := hm.inj _ _ x y p q (by rw [ho i _ e1]; exact hi) (by rw [ho j _ e2]; exact hj) hp hq hb
      exact nodup_inj hκ e1 (by rw [e2, this])
    · exact hm.glob.congr fun b hb => (hLive b).mp hb
  have hargs2 : ∀ {q q' : V}, Arg2 κ q q' → ∀ {v : Value}, Rep ρ w (Live A T objs) T q' v → Rep ρ w (Live A' T' fun i => obs[i]?) T' q v := by
    intro q q' h
    induction h with
    | flat q hq => intro v hr; rw [hLe]; exact .pure (repP_flat hr hq)
    | fn f =>
      intro v hr
      obtain ⟨vs, rfl, hs, _⟩ := rep_fn hr
      exact .fn f [] vs hs fun i q hq => by simp at hq
    | ptr i k r c hi =>
      intro v hr
      obtain ⟨p, h1, rfl⟩ := rep_ptr hr
      exact .ptr i r c p (by rw [hT' i k hi]; exact h1)
    | sl i k off len full hi =>
      intro v hr
      obtain ⟨p, at_, cap, h1, h2, h3, h4, h5, rfl⟩ := rep_sl hr
      exact .sl i off len full p at_ cap (by rw [hT' i k hi]; exact h1) h2 h3 h4 h5
    | agg l l' hl h ih =>
      intro v hr
      obtain ⟨vs, rfl, hs, hr⟩ := rep_agg hr
      refine .agg l vs (by omega) fun i q hq => ?_
      have hi : i < l'.length := by have := lt_of_get hq; omega
      exact ih i q _ hq (List.getElem?_eq_getElem hi) (hr i _ (List.getElem?_eq_getElem hi))
  refine (h w A' T' vals hM' (fun i hi => ⟨?_, ?_⟩) (by rw [hsz]; exact hargs.1) (fun i q hq => ?_)).mono ?_
  · show (κ[i]?).bind T = none
    rw [List.getElem?_eq_none (by omega)]
    rfl
  · exact List.getElem?_eq_none (by omega)
  · have hi : i < args'.length := by have := lt_of_get hq; rw [hargs.1]; exact this
    exact hargs2 (hargs.2 i q _ hq (List.getElem?_eq_getElem hi)) (hvals i _ (List.getElem?_eq_getElem hi))
  rintro e w' ⟨out, O, n', T2, ⟨o', obs', hfrz, hl', hobs', hR⟩, hwent, hrep⟩
  -- outside again
  have hkeepB : ∀ b, b < w.heap.size → ¬ LiveO T' (fun i => obs[i]?) b → w'.heap[b]? = w.heap[b]? := hwent.keep.block
  have hnew : ∀ k, putL κ obs' objs k ≠ none ↔ objs k ≠ none := by
    intro k
    by_cases hk : k ∈ κ
    · obtain ⟨i, hi, e⟩ := List.mem_iff_getElem.mp hk
      have hi' : κ[i]? = some k := by rw [List.getElem?_eq_getElem hi, e]
      rw [putL_in hκ (by omega) hi', ho i k hi', List.getElem?_eq_getElem (by omega), List.getElem?_eq_getElem (by omega)]
      simp
    · rw [putL_out hk]
  have hLiveN : ∀ b, LiveO T (putL κ obs' objs) b ↔ LiveO T objs b := by
    intro b
    constructor
    · rintro ⟨k, ob, p, h1, h2, h3⟩
      have := (hnew k).mp (by rw [h1]; simp)
      cases e : objs k with
      | none => exact (this e).elim
      | some ob2 => exact ⟨k, ob2, p, e, h2, h3⟩
    · rintro ⟨k, ob, p, h1, h2, h3⟩
      have := (hnew k).mpr (by rw [h1]; simp)
      cases e : putL κ obs' objs k with
      | none => exact (this e).elim
      | some ob2 => exact ⟨k, ob2, p, e, h2, h3⟩
  have hLiveNe : Live A T (putL κ obs' objs) = Live A T objs := funext fun b => propext ⟨fun h => h.imp id (hLiveN b).mp, fun h => h.imp id (hLiveN b).mpr⟩
  have hlater : ∀ (q : V) (v : Value), Rep ρ w (Live A T objs) T q v → Rep ρ w' (Live A T (putL κ obs' objs)) T q v := fun q v hq => by
    rw [hLiveNe]
    exact hq.later hwent.keep.size (fun b hb hn => hkeepB b hb fun g => by
      obtain ⟨i, k, ob, p, _, h2, h3, h4⟩ := (hLiveO b).mp g
      exact hn (.inr ⟨k, ob, p, h2, h3, h4⟩)) (fun _ _ h => h) hwent.keep.shape (fun _ _ h => h)
  have hLout : ∀ b, Live A T (putL κ obs' objs) b → A' b ∨ ∃ (j : Nat) (ob : Ob) (p : Pl), ¬ obs.length ≤ j ∧ O j = some ob ∧ T2 j = some p ∧ p.b = b := by
    intro b hb
    rw [hLiveNe] at hb
    rcases (hLive b).mpr hb with g | g
    · exact .inl g
    · obtain ⟨i, k, ob, p, h1, h2, h3, h4⟩ := (hLiveO b).mp g
      right
      have hi : i < κ.length := lt_of_get h1
      obtain ⟨ob2, g1, _⟩ := hobs' i _ (List.getElem?_eq_getElem (show i < obs'.length by omega))
      exact ⟨i, ob2, p, by omega, g1, hwent.ext i p (by rw [hT' i k h1]; exact h3), h4⟩
  have hWent : Went ρ A forb T objs w T (putL κ obs' objs) next w' := by
    refine ⟨fun _ _ h => h, ⟨fun b hb => Nat.lt_of_lt_of_le (hm.avoid b hb) hwent.keep.size, fun k p hp => Nat.lt_of_lt_of_le (hm.low k p hp) hwent.keep.size, fun k ob hk => ?_, fun i j x y p q hi hj hp hq hb => ?_, ?_⟩, fun k hk => ⟨(htop k hk).1, ?_⟩, fun k p h1 h2 => (by rw [h1] at h2; cases h2), fun k _ h => (hnew k).mp h, fun k r c _ h => (hnew k).mpr h, hwent.keep.mono fun b _ hb => ?_, fun k r c p h1 h2 h3 h4 => ?_⟩
    · by_cases hmem : k ∈ κ
      · obtain ⟨i, hi, e⟩ := List.mem_iff_getElem.mp hmem
        have hi' : κ[i]? = some k := by rw [List.getElem?_eq_getElem hi, e]
        rw [putL_in hκ (by omega) hi'] at hk
        obtain ⟨ob0, p, g1, g2, g3⟩ := hob i k hi'
        obtain ⟨ob2, g4, g5⟩ := hobs' i ob hk
        obtain ⟨p2, f1, f2, f3, C, t, f4, f5⟩ := hwent.mem.obj i ob2 g4
        have f6 := hwent.ext i p (by rw [hT' i k hi']; exact g3)
        rw [f1] at f6
        cases f6
        obtain ⟨p', k1, k2, _⟩ := hm.obj k ob0 g2
        rw [g3] at k1
        cases k1
        refine ⟨p, g3, k2, by rw [f3, g5.s], C, t, f4, fun r row' hr => ?_⟩
        obtain ⟨row, j1, j2, j3⟩ := g5.rows r row' hr
        obtain ⟨j4, j5, j6⟩ := f5 r row j1
        refine ⟨by rw [j2, j4, g5.s], fun q' hq' => ?_, fun c q' hq' => ?_⟩
        · obtain ⟨c, hc, rfl⟩ := List.mem_iff_getElem.mp hq'
          exact (j3 c _ _ (List.getElem?_eq_getElem (by omega)) (List.getElem?_eq_getElem hc)).one
        · have hc : c < row.length := by have := lt_of_get hq'; omega
          obtain ⟨v, j7, j8⟩ := j6 c _ (List.getElem?_eq_getElem hc)
          exact ⟨v, j7, .pure ((j3 c _ q' (List.getElem?_eq_getElem hc) hq').rep hwent.mem hLout j8)⟩
      · rw [putL_out hmem] at hk
        obtain ⟨p, h1, hA, h2, C, t, h3, h4⟩ := hm.obj k ob hk
        have hne : ¬ LiveO T' (fun i => obs[i]?) p.b := by
          intro g
          obtain ⟨i, k2, ob2, p2, g1, g2, g3, g4⟩ := (hLiveO _).mp g
          have := hm.inj k2 k ob2 ob p2 p g2 hk g3 h1 g4
          exact hmem (by rw [← this]; exact List.mem_of_getElem? g1)
        refine ⟨p, h1, hA, h2, C, t, by rw [hkeepB p.b (lt_heap h3) hne]; exact h3, fun r row hr => ?_⟩
        obtain ⟨g1, g2, g3⟩ := h4 r row hr
        refine ⟨g1, g2, fun c q hq => ?_⟩
        obtain ⟨v, h6, h7⟩ := g3 c q hq
        exact ⟨v, h6, hlater _ _ h7⟩
    · have h1 := (hnew i).mp (by rw [hi]; simp)
      have h2 := (hnew j).mp (by rw [hj]; simp)
      cases e1 : objs i with
      | none => exact (h1 e1).elim
      | some x' =>
        cases e2 : objs j with
        | none => exact (h2 e2).elim
        | some y' => exact hm.inj i j x' y' p q e1 e2 hp hq hb
    · rw [hLiveNe]
      exact hm.glob.later hwent.keep.size (fun b hb hn => hkeepB b hb fun g => by
        obtain ⟨i, k, ob, p, _, h2, h3, h4⟩ := (hLiveO b).mp g
        exact hn (.inr ⟨k, ob, p, h2, h3, h4⟩)) (fun _ _ h => h)
    · have h2 := (htop k hk).2
      cases e : putL κ obs' objs k with
      | none => rfl
      | some x => exact ((hnew k).mp (by rw [e]; simp) h2).elim
    · obtain ⟨i, k, ob, p, _, h2, h3, h4⟩ := (hLiveO b).mp hb
      exact ⟨k, ob, p, h2, h3, h4⟩
    · by_cases hmem : k ∈ κ
      · obtain ⟨i, hi, e⟩ := List.mem_iff_getElem.mp hmem
        have hi' : κ[i]? = some k := by rw [List.getElem?_eq_getElem hi, e]
        exact hwent.cells i r c p (hf i k r c hi' h1) (by rw [← ho i k hi']; exact h2) (by rw [hT' i k hi']; exact h3) h4
      · have hne : ¬ LiveO T' (fun i => obs[i]?) p.b := by
          intro g
          obtain ⟨i, k2, ob2, p2, g1, g2, g3, g4⟩ := (hLiveO _).mp g
          cases e : objs k with
          | none => exact (h2 e).elim
          | some ob =>
            have := hm.inj k2 k ob2 ob p2 p g2 e g3 h3 g4
            exact hmem (by rw [← this]; exact List.mem_of_getElem? g1)
        exact cell_of_heap (w := w) (w' := w') (hkeepB p.b (hm.low k p h3) hne)
  refine ⟨o', putL κ obs' objs, next, T, ⟨obs', hl', hR, rfl, rfl⟩, hWent, ?_⟩
  cases hfrz with
  | ret hz =>
    cases e with
    | returned x => exact hz.rep hwent.mem hLout hrep
    | panicked c => exact hrep.elim
    | outgrown => exact hrep.elim
  | panic hz =>
    cases e with
    | returned x => exact hrep.elim
    | panicked c =>
      obtain ⟨x, h1, h2⟩ := hrep
      exact ⟨x, h1, hz.rep hwent.mem hLout h2⟩
    | outgrown => exact hrep.elim

end Go.Proofs.YtibmbbogjkecoaaDoor.M

/- What functions answer, said once: of arguments without objects; of a receiver that is one row of cells. -/
namespace Go.Proofs.YtibmbbogjkecoaaDoor.M
open Go Go.RowKit
set_option linter.unusedSimpArgs false
set_option linter.unusedVariables false

variable {ρ : Nat → Value} {P : Program}

open Classical in
noncomputable def okIf (p : Prop) : Ans := if p then .ok else .err 7
theorem okIf_ok {p : Prop} (h : p) : okIf p = .ok := if_pos h
theorem okIf_inv {p : Prop} (h : okIf p = .ok) : p := by
  unfold okIf at h
  split at h
  · assumption
  · cases h

/-- Whatever there is: this is answered, and nothing else is done. -/
def Says (ρ : Nat → Value) (P : Program) (f : FuncId) (args : List V) (v : V) : Prop :=
  ∀ (objs : Objs) (next : Nat) (forb : CellP), QCalls ρ P f args objs next forb (fun o O m => o = .ret v ∧ O = objs ∧ m = next)

/-- A truth value is handed on as what it is. -/
noncomputable def outK (v : V) (k : V → Ans) : Ans := match v with
  | .bool b => boolK b (k (.bool true)) (k (.bool false))
  | v => k v
theorem outK_inv {v : V} {k : V → Ans} (h : outK v k = .ok) : k v = .ok := by
  unfold outK at h
  split at h
  · rcases boolK_inv h with ⟨rfl, h⟩ | ⟨rfl, h⟩ <;> exact h
  · exact h

/-- An answer under a condition that is asked for. -/
noncomputable def ovF (F : List V → Option (Bool × V)) : OvT := fun args _ hp nx kr _ => match F args with
  | some (c, v) => must c (outK v fun v => kr v hp nx)
  | none => .err 1

theorem ov_says {f : FuncId} {F : List V → Option (Bool × V)} (h : ∀ args v, F args = some (true, v) → Says ρ P f args v) : OvOK ρ P f (ovF F) := by
  intro args forb hp nx kr kp hk
  unfold ovF at hk
  split at hk
  · rename_i c v hv
    obtain ⟨hc, hk2⟩ := must_inv hk
    subst hc
    refine (h args v hv (absO hp) nx (inL forb)).mono ?_
    rintro o O m ⟨e1, e2, e3⟩
    subst e1 e2 e3
    exact ⟨hp, rfl, outK_inv hk2⟩
  · exact Ans.no hk

theorem says_frame {f : FuncId} {args : List V} {v' : V} (hargs : ∀ q ∈ args, Arg2 [] q q) (h : QCalls ρ P f args (fun _ => none) 0 (fun _ _ _ => False) (fun o O m => ∃ v, o = .ret v ∧ Frz (fun _ => True) O v v')) : Says ρ P f args v' := by
  intro objs next forb
  have h2 : QCalls ρ P f args (fun i : Nat => ([] : List Ob)[i]?) ([] : List Ob).length (fun _ _ _ => False) (Inner ([] : List Ob).length fun o _ => o = .ret v') := by
    have e : (fun i : Nat => ([] : List Ob)[i]?) = fun _ => none := by funext i; simp
    rw [e]
    refine h.mono ?_
    rintro o O m ⟨v, rfl, hv⟩
    refine ⟨.ret v', [], .ret ?_, rfl, fun i ob' hi => by simp at hi, rfl⟩
    have e2 : (fun j => ([] : List Ob).length ≤ j) = fun _ => True := by funext j; simp
    rw [e2]
    exact hv
  refine (frame (κ := []) List.nodup_nil rfl (fun ob hob => by cases hob) ⟨rfl, fun i q q' h1 h2 => ?_⟩ h2 (fun i k hi => by simp at hi) (fun i k r c hi => by simp at hi)).mono ?_
  · rw [h1] at h2
    cases h2
    exact hargs q (List.mem_of_getElem? h1)
  · rintro o O m ⟨obs', _, rfl, rfl, rfl⟩
    exact ⟨rfl, by cases obs' <;> rfl, rfl⟩

/-- A body that runs to its end. -/
theorem says_run (hm : P.follows .mixedOrders = true) {G : Gl} (hG : GOK' P G) {call : CallT} (hc : CallOK ρ P call) {f : FuncId} {args : List V} {v' : V} (hargs : ∀ q ∈ args, Arg2 [] q q)
    (h : (bdy P G f).run call args [] hp0 0 (fun v hp _ => okIf (Frz (fun _ => True) (absO hp) v v')) (fun _ _ _ => .err 8) = .ok) : Says ρ P f args v' := by
  refine says_frame hargs ?_
  have := bdy_sound (ρ := ρ) hm hG hc h
  rw [absO_hp0, inL_nil] at this
  refine this.mono fun o O m hr => ?_
  cases o with
  | ret v =>
    obtain ⟨hp, rfl, h⟩ := hr
    exact ⟨v, rfl, okIf_inv h⟩
  | panic v =>
    obtain ⟨hp, _, h⟩ := hr
    exact Ans.no h

/-! ### Receivers -/

def hpR (row : List V) : Hp := put4 hp0 0 (.cell row)
theorem absO_hpR (row : List V) : absO (hpR row) = fun i => [boxOb row][i]? := by
  unfold hpR
  rw [absO_put (by omega), absO_hp0]
  funext i
  unfold Objs.put
  cases i with
  | zero => rfl
  | succ i => simp

/-- A row behind the call, as what it holds. -/
def FrzRow (O : Objs) (row' : List V) : Prop := ∃ row0, O 0 = some (boxOb row0) ∧ row'.length = row0.length ∧ ∀ (c : Nat) (q q' : V), row0[c]? = some q → row'[c]? = some q' → FrzC (fun j => 1 ≤ j) O q q'

/-- Of a receiver with the cells of row this is answered, and then its cells are those of row'; fi: the cells of it that are let alone. -/
def SaysM (ρ : Nat → Value) (P : Program) (f : FuncId) (fi : Nat → Nat → Prop) (row args : List V) (v : V) (row' : List V) : Prop :=
  ∀ (objs : Objs) (next : Nat) (forb : CellP) (k : Nat), objs k = some (boxOb row) → (∀ r c, forb k r c → fi r c) →
    QCalls ρ P f (.ptr k 0 0 :: args) objs next forb (fun o O m => o = .ret v ∧ O = Objs.put objs k (some (boxOb row')) ∧ m = next)

theorem Arg2.weak {κ : List Nat} {q q' : V} (h : Arg2 [] q q') : Arg2 κ q q' := by
  induction h with
  | flat q h => exact .flat q h
  | fn f => exact .fn f
  | ptr i k r c h => simp at h
  | sl i k off len full h => simp at h
  | agg l l' hl h ih => exact .agg l l' hl ih

theorem boxOb_row {row : List V} {r : Nat} {x : List V} (h : (boxOb row).row r = some x) : r = 0 ∧ x = row := by
  unfold boxOb at h
  cases r with
  | zero => simp at h; exact ⟨rfl, h.symm⟩
  | succ r => simp at h

theorem saysM_run (hm : P.follows .mixedOrders = true) {G : Gl} (hG : GOK' P G) {call : CallT} (hc : CallOK ρ P call) {f : FuncId} {fb : List PC} {row args row' : List V} {v' : V} (hrow : ∀ q ∈ row, q.flat = true) (hargs : ∀ q ∈ args, Arg2 [] q q)
    (h : (bdy P G f).run call (.ptr 0 0 0 :: args) fb (hpR row) 1 (fun v hp _ => okIf (Frz (fun j => 1 ≤ j) (absO hp) v v' ∧ FrzRow (absO hp) row')) (fun _ _ _ => .err 8) = .ok) : SaysM ρ P f (inL fb 0) row args v' row' := by
  intro objs next forb k hk hf
  have h1 := bdy_sound (ρ := ρ) hm hG hc h
  rw [absO_hpR] at h1
  have h2 : QCalls ρ P f (.ptr 0 0 0 :: args) (fun i => [boxOb row][i]?) [boxOb row].length (inL fb) (Inner [boxOb row].length fun o obs => o = .ret v' ∧ obs = [boxOb row']) := by
    refine h1.mono fun o O m hr => ?_
    cases o with
    | ret v =>
      obtain ⟨hp, rfl, h⟩ := hr
      obtain ⟨g1, row0, g2, g3, g4⟩ := okIf_inv h
      refine ⟨.ret v', [boxOb row'], .ret g1, rfl, fun i ob' hi => ?_, rfl, rfl⟩
      cases i with
      | zero =>
        simp at hi
        subst hi
        refine ⟨boxOb row0, g2, by show row'.length = row0.length; exact g3, fun r x hx => ?_⟩
        obtain ⟨rfl, rfl⟩ := boxOb_row hx
        exact ⟨row0, rfl, g3, g4⟩
      | succ i => simp at hi
    | panic v =>
      obtain ⟨hp, _, h⟩ := hr
      exact Ans.no h
  refine (frame (κ := [k]) (args := .ptr 0 0 0 :: args) (args' := .ptr k 0 0 :: args) (List.nodup_cons.mpr ⟨by simp, List.nodup_nil⟩) rfl (fun ob hob => ?_) ⟨rfl, fun i q q' h1 h2 => ?_⟩ h2 (fun i j hi => ?_) (fun i j r c hi hfb => ?_)).mono ?_
  · simp at hob
    subst hob
    intro r x hx
    obtain ⟨rfl, rfl⟩ := boxOb_row hx
    exact hrow
  · cases i with
    | zero =>
      simp at h1 h2
      subst h1 h2
      exact .ptr 0 k 0 0 rfl
    | succ i =>
      simp at h1 h2
      rw [h1] at h2
      cases h2
      have := hargs q (List.mem_of_getElem? h1)
      exact this.weak
  · cases i with
    | zero => simp at hi; subst hi; exact hk
    | succ i => simp at hi
  · cases i with
    | zero => simp at hi; subst hi; exact hf r c hfb
    | succ i => simp at hi
  · rintro o O m ⟨obs', _, ⟨rfl, rfl⟩, rfl, rfl⟩
    exact ⟨rfl, rfl, rfl⟩

/-- A receiver's answer as the evaluator asks for it. -/
noncomputable def ovM (F : List V → List V → Option (Bool × V × List V)) : OvT := fun args forb hp nx kr _ => match args with
  | .ptr k 0 0 :: args => (acc4 KOb k).get hp fun ob => match ob with
    | .cell row => match F row args with
      | some (c, v, row') => must c (noneK k forb ((acc4 KOb k).upd hp (.cell row') fun hp' => outK v fun v => kr v hp' nx))
      | none => .err 2
    | _ => .err 3
  | _ => .err 4

theorem ov_saysM {f : FuncId} {F : List V → List V → Option (Bool × V × List V)} (h : ∀ row args v row', F row args = some (true, v, row') → SaysM ρ P f (fun _ _ => False) row args v row') : OvOK ρ P f (ovM F) := by
  intro args forb hp nx kr kp hk
  unfold ovM at hk
  split at hk
  · rename_i k args
    obtain ⟨hlt, hk⟩ := acc4_get hk
    split at hk
    · rename_i ob row hob
      split at hk
      · rename_i c v row' hF
        obtain ⟨hc, hk2⟩ := must_inv hk
        subst hc
        obtain ⟨hn, hk3⟩ := noneK_inv hk2
        obtain ⟨_, hk4⟩ := acc4_upd hk3
        have hk5 := outK_inv hk4
        refine (h row args v row' hF (absO hp) nx (inL forb) k ?_ (fun r c hx => (hn r c hx).elim)).mono ?_
        · unfold absO
          rw [if_pos hlt, hob]
          rfl
        · rintro o O m ⟨rfl, rfl, rfl⟩
          exact ⟨put4 hp k (.cell row'), by rw [absO_put hlt]; rfl, hk5⟩
      · exact Ans.no hk
    · exact Ans.no hk
  · exact Ans.no hk

/-! ### What is known of packed texts -/

theorem Says.wf {f : FuncId} {args : List V} {v : V} {i len n : Nat} (hi : args[i]? = some (.ps len n)) (h : n < 256 ^ len → Says ρ P f args v) : Says ρ P f args v := by
  intro objs next forb w A T vals h1 h2 h3 h4
  exact h (rep_ps (h4 i _ hi)).2 objs next forb w A T vals h1 h2 h3 h4

theorem SaysM.wf {f : FuncId} {fi : Nat → Nat → Prop} {row args row' : List V} {v : V} {i len n : Nat} (hi : row[i]? = some (.ps len n)) (h : n < 256 ^ len → SaysM ρ P f fi row args v row') : SaysM ρ P f fi row args v row' := by
  intro objs next forb k hk hf w A T vals h1 h2 h3 h4
  obtain ⟨p, g1, g2, g3, C, t, g4, g5⟩ := h1.obj k _ hk
  obtain ⟨g6, g7, g8⟩ := g5 0 row rfl
  obtain ⟨x, g9, g10⟩ := g8 i _ hi
  exact h (rep_ps g10).2 objs next forb k hk hf w A T vals h1 h2 h3 h4

theorem part_eq {n len k : Nat} (h : n < 256 ^ len) (hk : k ≤ len) : n / 256 ^ k % 256 ^ (len - k) = n / 256 ^ k := by
  refine Nat.mod_eq_of_lt (Nat.div_lt_of_lt_mul ?_)
  rw [← Nat.pow_add]
  rwa [show k + (len - k) = len by omega]

theorem part_lt {n len k : Nat} (h : n < 256 ^ len) (hk : k ≤ len) : n / 256 ^ k < 256 ^ (len - k) := by
  rw [← part_eq h hk]
  exact Nat.mod_lt _ (Nat.pow_pos (by omega))
theorem byte0 (n : Nat) : n / 256 ^ 0 % 256 = n % 256 := by rw [Nat.pow_zero, Nat.div_one]

/-! ### Ends -/

theorem frz_nil {N : Nat → Prop} {O : Objs} : Frz N O (.tup []) (.tup []) := .tup _ _ rfl fun i q q' h => by simp at h
theorem frz_cons {N : Nat → Prop} {O : Objs} {q q' : V} {l l' : List V} (h : Frz N O q q') (hl : Frz N O (.tup l) (.tup l')) : Frz N O (.tup (q :: l)) (.tup (q' :: l')) := by
  cases hl with
  | flat _ h => cases h
  | cell h => cases h with | same _ h => cases h
  | tup _ _ h1 h2 =>
    refine .tup _ _ (by simp [h1]) fun i p p' g1 g2 => ?_
    cases i with
    | zero => simp at g1 g2; subst g1 g2; exact h
    | succ i => exact h2 i p p' (by simpa using g1) (by simpa using g2)
theorem frz_agg {N : Nat → Prop} {O : Objs} {l l' : List V} (hl : Frz N O (.tup l) (.tup l')) : Frz N O (.agg l) (.agg l') := by
  cases hl with
  | flat _ h => cases h
  | cell h => cases h with | same _ h => cases h
  | tup _ _ h1 h2 => exact .agg _ _ h1 h2

/-- The receiver's row, cell by cell. -/
theorem frz_row {O : Objs} {row row0 : List V} (h : O 0 = some (boxOb row0)) (e : row = row0) (hf : ∀ q ∈ row, q.flat = true ∧ q.one = true) : FrzRow O row := by
  subst e
  refine ⟨row, h, rfl, fun c q q' h1 h2 => ?_⟩
  rw [h1] at h2
  cases h2
  have := hf q (List.mem_of_getElem? h1)
  exact .same q this.2 this.1



theorem frz_bool {N : Nat → Prop} {O : Objs} {b b' : Bool} (e : b = b') : Frz N O (.bool b) (.bool b') := by subst e; exact .flat _ rfl
theorem frz_int {N : Nat → Prop} {O : Objs} {k : IntKind} {b b' : Int} (e : b = b') : Frz N O (.int k b) (.int k b') := by subst e; exact .flat _ rfl
theorem frz_ps {N : Nat → Prop} {O : Objs} {l l' n n' : Nat} (e : l = l') (e' : n = n') : Frz N O (.ps l n) (.ps l' n') := by subst e e'; exact .flat _ rfl

/-- A list of rows that was made afresh. -/
theorem frz_ls {hp : Hp} {k len es s : Nat} {full : Bool} {rows0 rows : List (List V)} (hk : k < 65536) (hes : es = s) (hr : rows0 = rows) (hl : rows.length = len) (hf : ∀ row ∈ rows, ∀ q ∈ row, q.flat = true ∧ q.one = true) :
    Frz (fun _ => True) (absO (put4 hp k (.ls es rows0))) (.sl k 0 len full) (.ro s rows) := by
  subst hes hr
  have ho : absO (put4 hp k (.ls es rows0)) k = some ⟨es, fun r => rows0[r]?⟩ := by
    unfold absO
    rw [if_pos hk, get4_same hk]
    rfl
  have e : (V.ro es rows0) = V.ro (Ob.mk es fun r => rows0[r]?).s rows0 := rfl
  rw [e]
  refine .cell (.sl k 0 len full ⟨es, fun r => rows0[r]?⟩ rows0 (fun r => (rows0[r]?).getD []) trivial ho hl (fun r row' h => ⟨?_, ?_⟩) fun r row' h c q q' h1 h2 => ?_)
  · show rows0[0 + r]? = _
    rw [Nat.zero_add, h]
    rfl
  · rw [h]
    rfl
  · have h1 : ((rows0[r]?).getD [])[c]? = some q := h1
    rw [h] at h1
    have h1 : row'[c]? = some q := h1
    rw [h1] at h2
    cases h2
    have := hf row' (List.mem_of_getElem? h) q (List.mem_of_getElem? h1)
    exact .same q this.2 this.1

end Go.Proofs.YtibmbbogjkecoaaDoor.M

/- What a closed run answers, said by its content: results that are made afresh, row by row. -/
namespace Go.Proofs.YtibmbbogjkecoaaDoor.M
open Go Go.RowKit
set_option linter.unusedSimpArgs false
set_option linter.unusedVariables false

variable {ρ : Nat → Value} {P : Program}

/-- The same value, of those without objects that a kernel can tell apart. -/
def eqFl : V → V → Bool
  | .int k n, .int k' n' => Nat.beq (numK k) (numK k') && decide (n = n')
  | .bool b, .bool b' => b == b'
  | .ps l n, .ps l' n' => Nat.beq l l' && Nat.beq n n'
  | .sc (.slice none 0 0), .sc (.slice none 0 0) => true
  | .sc .nilIface, .sc .nilIface => true
  | _, _ => false
theorem eqFl_ok {a b : V} (h : eqFl a b = true) : a = b ∧ a.flat = true ∧ a.one = true := by
  unfold eqFl at h
  split at h
  · simp only [Bool.and_eq_true, decide_eq_true_eq] at h
    obtain ⟨h1, h2⟩ := h
    have := numK_inj h1
    subst this h2
    exact ⟨rfl, rfl, rfl⟩
  · simp at h
    subst h
    exact ⟨rfl, rfl, rfl⟩
  · simp only [Bool.and_eq_true, Nat.beq_eq] at h
    obtain ⟨h1, h2⟩ := h
    subst h1 h2
    exact ⟨rfl, rfl, rfl⟩
  · exact ⟨rfl, rfl, rfl⟩
  · exact ⟨rfl, rfl, rfl⟩
  · cases h
def eqRowL : List V → List V → Bool
  | [], [] => true
  | a :: l, b :: m => eqFl a b && eqRowL l m
  | _, _ => false
theorem eqRowL_ok : ∀ {a b : List V}, eqRowL a b = true → a = b ∧ ∀ q ∈ a, q.flat = true ∧ q.one = true
  | [], [], _ => ⟨rfl, by simp⟩
  | a :: l, b :: m, h => by
    simp only [eqRowL, Bool.and_eq_true] at h
    obtain ⟨h1, h2⟩ := h
    obtain ⟨rfl, g1, g2⟩ := eqFl_ok h1
    obtain ⟨rfl, g3⟩ := eqRowL_ok h2
    exact ⟨rfl, fun q hq => by
      rcases List.mem_cons.mp hq with rfl | hq
      · exact ⟨g1, g2⟩
      · exact g3 q hq⟩
  | [], _ :: _, h => by cases h
  | _ :: _, [], h => by cases h
def eqRowsL : List (List V) → List (List V) → Bool
  | [], [] => true
  | a :: l, b :: m => eqRowL a b && eqRowsL l m
  | _, _ => false
theorem eqRowsL_ok : ∀ {a b : List (List V)}, eqRowsL a b = true → a = b ∧ ∀ row ∈ a, ∀ q ∈ row, q.flat = true ∧ q.one = true
  | [], [], _ => ⟨rfl, by simp⟩
  | a :: l, b :: m, h => by
    simp only [eqRowsL, Bool.and_eq_true] at h
    obtain ⟨h1, h2⟩ := h
    obtain ⟨rfl, g1⟩ := eqRowL_ok h1
    obtain ⟨rfl, g3⟩ := eqRowsL_ok h2
    exact ⟨rfl, fun q hq => by
      rcases List.mem_cons.mp hq with rfl | hq
      · exact g1
      · exact g3 q hq⟩
  | [], _ :: _, h => by cases h
  | _ :: _, [], h => by cases h

/-- A slice of an object's rows, as what nobody writes. -/
theorem frz_rows {hp : Hp} {j off len : Nat} {full : Bool} {x : Ob} {rows : List (List V)} (hj : absO hp j = some x) (hl : rows.length = len) (hr : ∀ r, r < len → x.row (off + r) = rows[r]?) (hf : ∀ row ∈ rows, ∀ q ∈ row, q.flat = true ∧ q.one = true) :
    Frz (fun _ => True) (absO hp) (.sl j off len full) (.ro x.s rows) := by
  refine .cell (.sl j off len full x rows (fun r => (rows[r]?).getD []) trivial hj hl (fun r row' h => ?_) fun r row' h c q q' h1 h2 => ?_)
  · have hlt := lt_of_get h
    rw [h]
    exact ⟨by rw [hr r (by omega), h]; rfl, rfl⟩
  · have h1 : ((rows[r]?).getD [])[c]? = some q := h1
    rw [h] at h1
    have h1 : row'[c]? = some q := h1
    rw [h1] at h2
    cases h2
    have := hf row' (List.mem_of_getElem? h) q (List.mem_of_getElem? h1)
    exact .same q this.2 this.1

/-- Is it that? Of a value without objects, or of a slice of rows of such. -/
noncomputable def isV (v : V) (hp : Hp) (v' : V) : Ans := match v' with
  | .ro s rows0 => v.onNilS (fun j off len _ => (acc4 KOb j).get hp fun ob => ob.ofS s (rowsK ob len off fun rows => must (eqRowsL rows rows0) .ok)) (fun s' rows => must (Nat.beq s' s) (must (eqRowsL rows rows0) .ok)) (fun _ => .err 160)
  | v' => must (eqFl v v') .ok
theorem isV_ok {v v' : V} {hp : Hp} (h : isV v hp v' = .ok) : Frz (fun _ => True) (absO hp) v v' := by
  unfold isV at h
  split at h
  · rename_i s rows0
    rcases V.onNilS_inv h with ⟨j, off, len, full, rfl, h9⟩ | ⟨s', rows, rfl, h9⟩ | ⟨w, _, h9⟩
    · obtain ⟨ob, h1, h9⟩ := ob_inv h9
      obtain ⟨⟨x, h2, h3⟩, h9⟩ := KOb.ofS_inv h9
      obtain ⟨rows, h4, h5, h9⟩ := rowsK_inv h2 h9
      obtain ⟨h6, _⟩ := must_inv h9
      obtain ⟨rfl, h7⟩ := eqRowsL_ok h6
      subst h3
      exact frz_rows (h1.trans h2) h4 h5 h7
    · obtain ⟨h1, h9⟩ := must_inv h9
      obtain ⟨h2, _⟩ := must_inv h9
      have h1 := Nat.eq_of_beq_eq_true h1
      obtain ⟨e2, _⟩ := eqRowsL_ok h2
      subst h1 e2
      exact .flat _ rfl
    · exact Ans.no h9
  · obtain ⟨h1, _⟩ := must_inv h
    obtain ⟨rfl, h2, _⟩ := eqFl_ok h1
    exact .flat _ h2

/-- A closed run says what it answers. -/
theorem says_told (hm : P.follows .mixedOrders = true) {G : Gl} (hG : GOK' P G) {call : CallT} (hc : CallOK ρ P call) {f : FuncId} {args : List V} {v' : V} (hargs : ∀ q ∈ args, Arg2 [] q q)
    (h : isOk ((bdy P G f).run call args [] hp0 0 (fun v hp _ => isV v hp v') (fun _ _ _ => .err 8)) = true) : Says ρ P f args v' := by
  refine says_frame hargs ?_
  have := bdy_sound (ρ := ρ) hm hG hc (isOk_ok h)
  rw [absO_hp0, inL_nil] at this
  refine this.mono fun o O m hr => ?_
  cases o with
  | ret v =>
    obtain ⟨hp, rfl, h⟩ := hr
    exact ⟨v, rfl, isV_ok h⟩
  | panic v =>
    obtain ⟨hp, _, h⟩ := hr
    exact Ans.no h

/-! ### Tuples; runs in which some functions' answers are told -/

noncomputable def andK (a b : Ans) : Ans := Ans.rec (motive := fun _ => AnsT) b (fun n => .err n) a
theorem andK_inv {a b : Ans} (h : andK a b = .ok) : a = .ok ∧ b = .ok := by
  cases a with
  | ok => exact ⟨rfl, h⟩
  | err n => cases h

noncomputable def isVs (hp : Hp) : List V → List V → Ans
  | [], [] => .ok
  | a :: l, b :: m => andK (isV a hp b) (isVs hp l m)
  | _, _ => .err 161
theorem isVs_ok {hp : Hp} : ∀ {l m : List V}, isVs hp l m = .ok → Frz (fun _ => True) (absO hp) (.tup l) (.tup m)
  | [], [], _ => frz_nil
  | a :: l, b :: m, h => by
    obtain ⟨h1, h2⟩ := andK_inv h
    exact frz_cons (isV_ok h1) (isVs_ok h2)
  | [], _ :: _, h => by cases h
  | _ :: _, [], h => by cases h

noncomputable def isT (v : V) (hp : Hp) (v' : V) : Ans := match v' with
  | .tup m => v.onTup fun l => isVs hp l m
  | v' => isV v hp v'
theorem isT_ok {v v' : V} {hp : Hp} (h : isT v hp v' = .ok) : Frz (fun _ => True) (absO hp) v v' := by
  unfold isT at h
  split at h
  · obtain ⟨l, rfl, h⟩ := V.onTup_inv h
    exact isVs_ok h
  · exact isV_ok h

theorem says_toldT (hm : P.follows .mixedOrders = true) {G : Gl} (hG : GOK' P G) {call : CallT} (hc : CallOK ρ P call) {f : FuncId} {args : List V} {v' : V} (hargs : ∀ q ∈ args, Arg2 [] q q)
    (h : isOk ((bdy P G f).run call args [] hp0 0 (fun v hp _ => isT v hp v') (fun _ _ _ => .err 8)) = true) : Says ρ P f args v' := by
  refine says_frame hargs ?_
  have := bdy_sound (ρ := ρ) hm hG hc (isOk_ok h)
  rw [absO_hp0, inL_nil] at this
  refine this.mono fun o O m hr => ?_
  cases o with
  | ret v =>
    obtain ⟨hp, rfl, h⟩ := hr
    exact ⟨v, rfl, isT_ok h⟩
  | panic v =>
    obtain ⟨hp, _, h⟩ := hr
    exact Ans.no h

/-- A run in which what 'ov' tells is told. -/
noncomputable def runW (P : Program) (G : Gl) (ov : CallT → CallT) (n : Nat) : CallT :=
  Nat.rec (motive := fun _ => CallT) (ov fun _ _ _ _ _ _ _ => .err 81) (fun _ ih => ov fun f args forb hp nx kr kp => (bdy P G f).run ih args forb hp nx kr kp) n
theorem runW_ok (hm : P.follows .mixedOrders = true) {G : Gl} (hG : GOK' P G) {ov : CallT → CallT} (ho : ∀ c, CallOK ρ P c → CallOK ρ P (ov c)) : ∀ n, CallOK ρ P (runW P G ov n)
  | 0 => ho _ fun f args forb hp nx kr kp h => Ans.no h
  | n + 1 => ho _ fun f args forb hp nx kr kp h => bdy_sound hm hG (runW_ok hm hG ho n) h

end Go.Proofs.YtibmbbogjkecoaaDoor.M

/- A slice that is handed over is given up: from then on nobody writes it. -/
namespace Go.Proofs.YtibmbbogjkecoaaDoor.M
open Go Go.RowKit
set_option linter.unusedSimpArgs false
set_option linter.unusedVariables false

variable {ρ : Nat → Value} {P : Program}

theorem QCalls.freeze {f : FuncId} {args args' : List V} {objs : Objs} {k next : Nat} {forb : CellP} {R : Out → Objs → Nat → Prop} (hk : ∀ r c, ¬ forb k r c)
    (hargs : args'.length = args.length ∧ ∀ (i : Nat) (q q' : V), args[i]? = some q → args'[i]? = some q' → q' = q ∨ Frz (fun j => j = k) objs q q')
    (h : QCalls ρ P f args' (Objs.put objs k none) next forb R) : QCalls ρ P f args objs next forb R := by
  intro w A T vals hm htop hsz hvals
  have hput : ∀ (j : Nat) (ob : Ob), Objs.put objs k none j = some ob → j ≠ k ∧ objs j = some ob := by
    intro j ob hj
    unfold Objs.put at hj
    split at hj
    · cases hj
    · exact ⟨by assumption, hj⟩
  have hliveO : ∀ b, LiveO T (Objs.put objs k none) b → ∃ (j : Nat) (ob : Ob) (p : Pl), ¬ (j = k) ∧ objs j = some ob ∧ T j = some p ∧ p.b = b := by
    rintro b ⟨j, ob, p, h1, h2, h3⟩
    obtain ⟨g1, g2⟩ := hput j ob h1
    exact ⟨j, ob, p, g1, g2, h2, h3⟩
  have hlive : ∀ b, Live A T (Objs.put objs k none) b → Live A T objs b := fun b hb => hb.imp id fun g => by
    obtain ⟨j, ob, p, _, g2, g3, g4⟩ := hliveO b g
    exact ⟨j, ob, p, g2, g3, g4⟩
  have hM : HoldsM ρ w A T (Objs.put objs k none) := by
    refine ⟨hm.avoid, hm.low, fun j ob hj => ?_, fun i j x y p q hi hj hp hq hb => ?_, hm.glob.congr hlive⟩
    · obtain ⟨_, g2⟩ := hput j ob hj
      obtain ⟨p, f1, f2, f3, C, t, f4, f5⟩ := hm.obj j ob g2
      refine ⟨p, f1, f2, f3, C, t, f4, fun r row hr => ?_⟩
      obtain ⟨g3, g4, g5⟩ := f5 r row hr
      refine ⟨g3, g4, fun c q hq => ?_⟩
      obtain ⟨v, g6, g7⟩ := g5 c q hq
      exact ⟨v, g6, g7.congr hlive⟩
    · exact hm.inj i j x y p q (hput i x hi).2 (hput j y hj).2 hp hq hb
  refine (h w A T vals hM (fun j hj => ⟨(htop j hj).1, ?_⟩) (by rw [hsz]; exact hargs.1.symm) (fun i q' hq' => ?_)).mono ?_
  · cases e : Objs.put objs k none j with
    | none => rfl
    | some ob =>
      have := (hput j ob e).2
      rw [(htop j hj).2] at this
      cases this
  · have hi : i < args.length := by have := lt_of_get hq'; omega
    have hq := List.getElem?_eq_getElem hi
    have hv := hvals i _ hq
    rcases hargs.2 i _ q' hq hq' with e | e
    · rw [e]; exact hv.congr hlive
    · exact e.rep hm (fun b hb => hb.imp id (hliveO b)) hv
  · rintro e w' ⟨out, O, m, T', h1, h2, h3⟩
    refine ⟨out, O, m, T', h1, ⟨h2.ext, h2.mem, h2.top, fun j p hj hp => ?_, fun j hj ho => ?_, fun j r c hf ho => ?_, h2.keep.mono fun b _ hb => ?_, fun j r c p hf ho hp hn => ?_⟩, h3⟩
    · refine (h2.fresh j p hj hp).imp id fun g => ?_
      obtain ⟨j2, ob, p2, _, g2, g3, g4⟩ := hliveO _ g
      exact ⟨j2, ob, p2, g2, g3, g4⟩
    · have := h2.old j hj ho
      cases e : Objs.put objs k none j with
      | none => exact (this e).elim
      | some ob => rw [(hput j ob e).2]; simp
    · refine h2.stay j r c hf ?_
      unfold Objs.put
      split
      · rename_i e
        subst e
        exact (hk r c hf).elim
      · exact ho
    · obtain ⟨j2, ob, p2, _, g2, g3, g4⟩ := hliveO b hb
      exact ⟨j2, ob, p2, g2, g3, g4⟩
    · refine h2.cells j r c p hf ?_ hp hn
      unfold Objs.put
      split
      · rename_i e
        subst e
        exact (hk r c hf).elim
      · exact ho

def flatRows (rows : List (List V)) : Bool := rows.all fun row => row.all fun q => q.flat && q.one
theorem flatRows_ok {rows : List (List V)} (h : flatRows rows = true) : ∀ row ∈ rows, ∀ q ∈ row, q.flat = true ∧ q.one = true := fun row hr q hq => by
  have := List.all_eq_true.mp (List.all_eq_true.mp h row hr) q hq
  rwa [Bool.and_eq_true] at this

theorem frz_rowsN {O : Objs} {j off len : Nat} {full : Bool} {x : Ob} {rows : List (List V)} (hj : O j = some x) (hl : rows.length = len) (hr : ∀ r, r < len → x.row (off + r) = rows[r]?) (hf : ∀ row ∈ rows, ∀ q ∈ row, q.flat = true ∧ q.one = true) :
    Frz (fun i => i = j) O (.sl j off len full) (.ro x.s rows) := by
  refine .cell (.sl j off len full x rows (fun r => (rows[r]?).getD []) rfl hj hl (fun r row' h => ?_) fun r row' h c q q' h1 h2 => ?_)
  · have hlt := lt_of_get h
    rw [h]
    exact ⟨by rw [hr r (by omega), h]; rfl, rfl⟩
  · have h1 : ((rows[r]?).getD [])[c]? = some q := h1
    rw [h] at h1
    have h1 : row'[c]? = some q := h1
    rw [h1] at h2
    cases h2
    have := hf row' (List.mem_of_getElem? h) q (List.mem_of_getElem? h1)
    exact .same q this.2 this.1

/-- Argument i, a slice of rows of s cells, is given up. -/
noncomputable def frzA (i s : Nat) (c : OvT) : OvT := fun args forb hp nx kr kp => (nth i).get args fun q => q.onNilS
  (fun k off len _ => noneK k forb ((acc4 KOb k).get hp fun ob => ob.ofS s (rowsK ob len off fun rows => must (flatRows rows) ((acc4 KOb k).upd hp .no fun hp' => c (args.set i (.ro s rows)) forb hp' nx kr kp))))
  (fun _ _ => c args forb hp nx kr kp) (fun _ => c args forb hp nx kr kp)

theorem frzA_ok {f : FuncId} {i s : Nat} {c : OvT} (h : OvOK ρ P f c) : OvOK ρ P f (frzA i s c) := by
  intro args forb hp nx kr kp h0
  obtain ⟨q, hq, h0⟩ := nth_inv h0
  rcases V.onNilS_inv h0 with ⟨k, off, len, full, rfl, h1⟩ | ⟨_, _, _, h1⟩ | ⟨_, _, h1⟩
  · obtain ⟨hn, h1⟩ := noneK_inv h1
    obtain ⟨ob, h2, h1⟩ := ob_inv h1
    obtain ⟨⟨x, h3, h4⟩, h1⟩ := KOb.ofS_inv h1
    obtain ⟨rows, h5, h6, h1⟩ := rowsK_inv h3 h1
    obtain ⟨h7, h1⟩ := must_inv h1
    obtain ⟨hlt, h1⟩ := acc4_upd h1
    have h8 := h _ _ _ _ _ _ h1
    rw [absO_put hlt] at h8
    refine QCalls.freeze hn ⟨by simp, fun j q1 q2 g1 g2 => ?_⟩ h8
    rw [List.getElem?_set] at g2
    split at g2
    · rename_i e
      subst e
      rw [hq] at g1
      cases g1
      split at g2
      · cases g2
        right
        subst h4
        exact (frz_rowsN (h2.trans h3) h5 h6 (flatRows_ok h7))
      · cases g2
    · left
      rw [g1] at g2
      exact (Option.some.inj g2).symm
  · exact h _ _ _ _ _ _ h1
  · exact h _ _ _ _ _ _ h1

/-! ### What is told, entry by entry -/

def eqA : V → V → Bool
  | .ro s rows, .ro s' rows' => Nat.beq s s' && eqRowsL rows rows'
  | a, b => eqFl a b
theorem eqA_ok {a b : V} (h : eqA a b = true) : a = b := by
  unfold eqA at h
  split at h
  · simp only [Bool.and_eq_true, Nat.beq_eq] at h
    obtain ⟨rfl, h2⟩ := h
    rw [(eqRowsL_ok h2).1]
  · exact (eqFl_ok h).1
def eqArgs : List V → List V → Bool
  | [], [] => true
  | a :: l, b :: m => eqA a b && eqArgs l m
  | _, _ => false
theorem eqArgs_ok : ∀ {a b : List V}, eqArgs a b = true → a = b
  | [], [], _ => rfl
  | a :: l, b :: m, h => by
    simp only [eqArgs, Bool.and_eq_true] at h
    rw [eqA_ok h.1, eqArgs_ok h.2]
  | [], _ :: _, h => by cases h
  | _ :: _, [], h => by cases h

noncomputable def ovTab (T : List (List V × V)) : OvT := fun args _ hp nx kr _ => List.rec (motive := fun _ => AnsT) (.err 163) (fun e _ ih => boolK (eqArgs args e.1) (kr e.2 hp nx) ih) T
theorem ovTab_ok {f : FuncId} {T : List (List V × V)} (h : ∀ e ∈ T, Says ρ P f e.1 e.2) : OvOK ρ P f (ovTab T) := by
  intro args forb hp nx kr kp h0
  unfold ovTab at h0
  induction T with
  | nil => exact Ans.no h0
  | cons e T ih =>
    rcases boolK_inv h0 with ⟨h1, h2⟩ | ⟨_, h2⟩
    · rw [eqArgs_ok h1]
      refine (h e List.mem_cons_self (absO hp) nx (inL forb)).mono ?_
      rintro o O m ⟨e1, e2, e3⟩
      subst e1 e2 e3
      exact ⟨hp, rfl, h2⟩
    · exact ih (fun x hx => h x (List.mem_cons_of_mem _ hx)) h2

theorem isOk_of {a : Ans} (h : a = .ok) : isOk a = true := by subst h; rfl
theorem says_toldK (hm : P.follows .mixedOrders = true) {G : Gl} (hG : GOK' P G) {call : CallT} (hc : CallOK ρ P call) {f : FuncId} {args : List V} {v' : V} (hargs : ∀ q ∈ args, Arg2 [] q q)
    (h : (bdy P G f).run call args [] hp0 0 (fun v hp _ => isT v hp v') (fun _ _ _ => .err 8) = .ok) : Says ρ P f args v' := says_toldT hm hG hc hargs (isOk_of h)

/-- The runs behind a table. -/
noncomputable def runsTab (P : Program) (G : Gl) (call : CallT) (f : FuncId) (T : List (List V × V)) : Bool :=
  T.all fun e => (e.1.all V.flat) && isOk ((bdy P G f).run call e.1 [] hp0 0 (fun v hp _ => isT v hp e.2) (fun _ _ _ => .err 8))
theorem runsTab_ok (hm : P.follows .mixedOrders = true) {G : Gl} (hG : GOK' P G) {call : CallT} (hc : CallOK ρ P call) {f : FuncId} {T : List (List V × V)} (h : runsTab P G call f T = true) : ∀ e ∈ T, Says ρ P f e.1 e.2 := by
  intro e he
  have := List.all_eq_true.mp h e he
  rw [Bool.and_eq_true] at this
  exact says_toldT hm hG hc (fun q hq => .flat _ (List.all_eq_true.mp this.1 q hq)) this.2

end Go.Proofs.YtibmbbogjkecoaaDoor.M

/- What the lexers reckon, on bytes packed into numbers. -/
namespace Go.Proofs.YtibmbbogjkecoaaDoor.M
open Go

def letterB (c : Nat) : Bool := Nat.ble 97 c && Nat.ble c 122
def digitB (c : Nat) : Bool := Nat.ble 48 c && Nat.ble c 57
def innerB (c : Nat) : Bool := letterB c || digitB c || Nat.beq c 95
def lineB (c : Nat) : Bool := !Nat.beq c 10

/-- How many of the first bytes are of a kind. -/
def runP (p : Nat → Bool) : Nat → Nat → Nat
  | 0, _ => 0
  | l + 1, n => match p (n % 256) with
    | true => runP p l (n / 256) + 1
    | false => 0

theorem runP_le (p : Nat → Bool) : ∀ l n, runP p l n ≤ l
  | 0, _ => Nat.le_refl _
  | l + 1, n => by
    unfold runP
    split
    · have := runP_le p l (n / 256); omega
    · omega

/-- Behind so many of them. -/
theorem runP_step {p : Nat → Bool} : ∀ {i l n : Nat}, i < l → i + runP p (l - i) (n / 256 ^ i) = (match p (n / 256 ^ i % 256) with | true => i + 1 + runP p (l - (i + 1)) (n / 256 ^ (i + 1)) | false => i) := by
  intro i l n h
  obtain ⟨m, hm⟩ : ∃ m, l - i = m + 1 := ⟨l - i - 1, by omega⟩
  rw [hm, show l - (i + 1) = m by omega]
  rw [Nat.pow_succ, ← Nat.div_div_eq_div_mul]
  show i + (match p (n / 256 ^ i % 256) with | true => runP p m (n / 256 ^ i / 256) + 1 | false => 0) = _
  cases p (n / 256 ^ i % 256) with
  | true => show i + (runP p m (n / 256 ^ i / 256) + 1) = i + 1 + runP p m (n / 256 ^ i / 256); omega
  | false => rfl

/-- Behind all that parts tokens. -/
def blanksF : Nat → Nat → Nat → Nat → Nat → Nat × Nat × Nat × Nat
  | 0, l, n, line, col => (l, n, line, col)
  | f + 1, l, n, line, col => match Nat.beq l 0 with
    | true => (l, n, line, col)
    | false => match Nat.beq (n % 256) 32 || Nat.beq (n % 256) 9 with
      | true => blanksF f (l - 1) (n / 256) line (col + 1)
      | false => match Nat.beq (n % 256) 10 with
        | true => blanksF f (l - 1) (n / 256) (line + 1) 1
        | false => match Nat.beq (n % 256) 35 with
          | true => blanksF f (l - runP lineB l n) (n / 256 ^ runP lineB l n) line (col + runP lineB l n)
          | false => (l, n, line, col)

theorem blanks_blank {f l n line col : Nat} (h : 0 < l) (hb : n % 256 = 32 ∨ n % 256 = 9) : blanksF (f + 1) l n line col = blanksF f (l - 1) (n / 256) line (col + 1) := by
  have h1 : Nat.beq l 0 = false := beq_false_iff.mpr (by omega)
  have h2 : (Nat.beq (n % 256) 32 || Nat.beq (n % 256) 9) = true := by rw [Bool.or_eq_true, Nat.beq_eq, Nat.beq_eq]; exact hb
  simp only [blanksF, h1, h2]
theorem blanks_line {f l n line col : Nat} (h : 0 < l) (hb : n % 256 = 10) : blanksF (f + 1) l n line col = blanksF f (l - 1) (n / 256) (line + 1) 1 := by
  have h1 : Nat.beq l 0 = false := beq_false_iff.mpr (by omega)
  simp only [blanksF, h1, hb, Nat.beq_refl]
  rfl
theorem blanks_word {f l n line col : Nat} (h : 0 < l) (hb : n % 256 = 35) : blanksF (f + 1) l n line col = blanksF f (l - runP lineB l n) (n / 256 ^ runP lineB l n) line (col + runP lineB l n) := by
  have h1 : Nat.beq l 0 = false := beq_false_iff.mpr (by omega)
  simp only [blanksF, h1, hb]
  rfl
theorem blanks_end {f l n line col : Nat} (hb : l = 0 ∨ n % 256 ≠ 32 ∧ n % 256 ≠ 9 ∧ n % 256 ≠ 10 ∧ n % 256 ≠ 35) : blanksF f l n line col = (l, n, line, col) := by
  cases f with
  | zero => rfl
  | succ f =>
    rcases hb with rfl | ⟨h1, h2, h3, h4⟩
    · rfl
    · cases e : Nat.beq l 0 with
      | true => simp only [blanksF, e]
      | false =>
        have e1 := beq_false_iff.mpr h1
        have e2 := beq_false_iff.mpr h2
        have e3 := beq_false_iff.mpr h3
        have e4 := beq_false_iff.mpr h4
        simp only [blanksF, e, e1, e2, e3, e4, Bool.or_self]

theorem runP_all {p : Nat → Bool} : ∀ {len n i : Nat}, runP p len n = len → i < len → p (n / 256 ^ i % 256) = true
  | 0, _, _, _, h => by omega
  | len + 1, n, i, hr, hi => by
    simp only [runP] at hr
    cases e : p (n % 256) with
    | false => rw [e] at hr; simp at hr
    | true =>
      rw [e] at hr
      simp only at hr
      cases i with
      | zero => simpa using e
      | succ i =>
        have := runP_all (p := p) (len := len) (n := n / 256) (i := i) (by omega) (by omega)
        rw [Nat.div_div_eq_div_mul, Nat.mul_comm, ← Nat.pow_succ] at this
        exact this

/-- What digits are, behind a number. -/
def numP : Nat → Nat → Nat → Nat
  | 0, _, a => a
  | l + 1, n, a => numP l (n / 256) (a * 10 + (n % 256 - 48))

theorem numP_step {i l n a : Nat} (h : i < l) : numP (l - i) (n / 256 ^ i) a = numP (l - (i + 1)) (n / 256 ^ (i + 1)) (a * 10 + (n / 256 ^ i % 256 - 48)) := by
  obtain ⟨m, hm⟩ : ∃ m, l - i = m + 1 := ⟨l - i - 1, by omega⟩
  rw [hm, show l - (i + 1) = m by omega, Nat.pow_succ, ← Nat.div_div_eq_div_mul]
  rfl

theorem mod_mod256 {n k : Nat} (h : 0 < k) : n % 256 ^ k % 256 = n % 256 := by
  obtain ⟨j, rfl⟩ : ∃ j, k = j + 1 := ⟨k - 1, by omega⟩
  rw [Nat.pow_succ, Nat.mul_comm]
  exact Nat.mod_mul_right_mod n 256 (256 ^ j)
theorem mod_div256 {n k : Nat} : n % 256 ^ (k + 1) / 256 = n / 256 % 256 ^ k := by
  rw [Nat.pow_succ, Nat.mul_comm]
  exact Nat.mod_mul_right_div_self n 256 (256 ^ k)

theorem runP_mod {p : Nat → Bool} : ∀ {l k n : Nat}, l ≤ k → runP p l (n % 256 ^ k) = runP p l n
  | 0, _, _, _ => rfl
  | l + 1, k, n, h => by
    obtain ⟨j, rfl⟩ : ∃ j, k = j + 1 := ⟨k - 1, by omega⟩
    simp only [runP, mod_mod256 (show 0 < j + 1 by omega), mod_div256, runP_mod (show l ≤ j by omega)]

/-- So many of the first ones are of a kind: of so many, all. -/
theorem runP_self {p : Nat → Bool} : ∀ {l n : Nat}, runP p (runP p l n) n = runP p l n
  | 0, _ => rfl
  | l + 1, n => by
    cases e : p (n % 256) with
    | false => simp [runP, e]
    | true => simp [runP, e, runP_self (l := l) (n := n / 256)]

/-- Is a byte a sign? -/
def signB (c : Nat) : Bool := match c with
  | 40 | 41 | 123 | 125 | 91 | 93 | 44 | 59 | 58 | 61 | 46 | 43 | 45 | 42 | 60 | 94 | 33 | 63 => true
  | _ => false

/-- The token at the beginning: its kind, its number, how long it is. -/
def tokM (len n : Nat) : Option (Nat × Nat × Nat) :=
  match Nat.beq len 0 with
  | true => some (4, 0, 0)
  | false => match letterB (n % 256) with
    | true => match Nat.ble (runP innerB len n) 16 with
      | true => some (1, 0, runP innerB len n)
      | false => none
    | false => match digitB (n % 256) with
      | true => match Nat.ble (runP digitB len n) 9 && !(Nat.beq (n % 256) 48 && Nat.ble 2 (runP digitB len n)) with
        | true => some (2, numP (runP digitB len n) (n % 256 ^ runP digitB len n) 0, runP digitB len n)
        | false => none
      | false => match signB (n % 256) with
        | true => some (3, 0, 1)
        | false => none

theorem tok_word {len n : Nat} (h0 : 0 < len) (h1 : letterB (n % 256) = true) (h2 : runP innerB len n ≤ 16) : tokM len n = some (1, 0, runP innerB len n) := by
  simp only [tokM, beq_false_iff.mpr (show len ≠ 0 by omega), h1, Nat.ble_eq_true_of_le h2]
theorem tok_wordNo {len n : Nat} (h0 : 0 < len) (h1 : letterB (n % 256) = true) (h2 : 16 < runP innerB len n) : tokM len n = none := by
  simp only [tokM, beq_false_iff.mpr (show len ≠ 0 by omega), h1, ble_false_iff.mpr h2]
theorem tok_num {len n : Nat} (h0 : 0 < len) (h1 : letterB (n % 256) = false) (h2 : digitB (n % 256) = true) (h3 : runP digitB len n ≤ 9) (h4 : n % 256 ≠ 48 ∨ runP digitB len n ≤ 1) :
    tokM len n = some (2, numP (runP digitB len n) (n % 256 ^ runP digitB len n) 0, runP digitB len n) := by
  have h5 : (Nat.beq (n % 256) 48 && Nat.ble 2 (runP digitB len n)) = false := by
    rcases h4 with h | h
    · rw [beq_false_iff.mpr h, Bool.false_and]
    · rw [ble_false_iff.mpr (show runP digitB len n < 2 by omega), Bool.and_false]
  simp only [tokM, beq_false_iff.mpr (show len ≠ 0 by omega), h1, h2, Nat.ble_eq_true_of_le h3, h5, Bool.not_false, Bool.and_self]
theorem tok_numNo {len n : Nat} (h0 : 0 < len) (h1 : letterB (n % 256) = false) (h2 : digitB (n % 256) = true) (h3 : 9 < runP digitB len n ∨ n % 256 = 48 ∧ 1 < runP digitB len n) : tokM len n = none := by
  have h5 : (Nat.ble (runP digitB len n) 9 && !(Nat.beq (n % 256) 48 && Nat.ble 2 (runP digitB len n))) = false := by
    rcases h3 with h | ⟨h, h'⟩
    · rw [ble_false_iff.mpr h, Bool.false_and]
    · rw [h, Nat.ble_eq_true_of_le (show 2 ≤ runP digitB len n by omega), Nat.beq_refl, Bool.and_self, Bool.not_true, Bool.and_false]
  simp only [tokM, beq_false_iff.mpr (show len ≠ 0 by omega), h1, h2, h5]
theorem tok_sign {len n : Nat} (h0 : 0 < len) (h1 : letterB (n % 256) = false) (h2 : digitB (n % 256) = false) (h3 : signB (n % 256) = true) : tokM len n = some (3, 0, 1) := by
  simp only [tokM, beq_false_iff.mpr (show len ≠ 0 by omega), h1, h2, h3]
theorem tok_none {len n : Nat} (h0 : 0 < len) (h1 : letterB (n % 256) = false) (h2 : digitB (n % 256) = false) (h3 : signB (n % 256) = false) : tokM len n = none := by
  simp only [tokM, beq_false_iff.mpr (show len ≠ 0 by omega), h1, h2, h3]

theorem runP_pos {p : Nat → Bool} {l n : Nat} (h : 0 < l) (hp : p (n % 256) = true) : 0 < runP p l n := by
  cases l with
  | zero => omega
  | succ l => simp only [runP, hp]; omega

theorem blanksF_facts : ∀ {f l n line col : Nat}, n < 256 ^ l → (blanksF f l n line col).1 ≤ l ∧ (blanksF f l n line col).2.1 < 256 ^ (blanksF f l n line col).1 ∧
    (blanksF f l n line col).2.2.1 + (blanksF f l n line col).1 ≤ line + l ∧ (blanksF f l n line col).2.2.2 + (blanksF f l n line col).1 ≤ col + l
  | 0, l, n, line, col, h => ⟨Nat.le_refl _, h, Nat.le_refl _, Nat.le_refl _⟩
  | f + 1, l, n, line, col, h => by
    by_cases h0 : l = 0
    · rw [blanks_end (.inl h0)]; exact ⟨Nat.le_refl _, h, Nat.le_refl _, Nat.le_refl _⟩
    have hd : n / 256 < 256 ^ (l - 1) := by have := part_lt (k := 1) h (by omega); rwa [Nat.pow_one] at this
    by_cases h1 : n % 256 = 32 ∨ n % 256 = 9
    · rw [blanks_blank (by omega) h1]
      have := blanksF_facts (f := f) (line := line) (col := col + 1) hd
      exact ⟨by omega, this.2.1, by omega, by omega⟩
    by_cases h2 : n % 256 = 10
    · rw [blanks_line (by omega) h2]
      have := blanksF_facts (f := f) (line := line + 1) (col := 1) hd
      exact ⟨by omega, this.2.1, by omega, by omega⟩
    by_cases h3 : n % 256 = 35
    · rw [blanks_word (by omega) h3]
      have hk := runP_le lineB l n
      have := blanksF_facts (f := f) (line := line) (col := col + runP lineB l n) (part_lt h hk)
      exact ⟨by omega, this.2.1, by omega, by omega⟩
    · rw [blanks_end (.inr ⟨by omega, by omega, h2, h3⟩)]; exact ⟨Nat.le_refl _, h, Nat.le_refl _, Nat.le_refl _⟩

theorem tokM_facts {l n kind num tl : Nat} (h : tokM l n = some (kind, num, tl)) : tl ≤ l ∧ (kind = 4 ∧ l = 0 ∧ num = 0 ∧ tl = 0 ∨ kind ≠ 4 ∧ 1 ≤ tl) := by
  by_cases h0 : l = 0
  · subst h0
    simp only [tokM, Option.some.injEq, Prod.mk.injEq] at h
    obtain ⟨rfl, rfl, rfl⟩ := h
    exact ⟨by omega, .inl ⟨rfl, rfl, rfl, rfl⟩⟩
  cases h1 : letterB (n % 256) with
  | true =>
    have hp : 0 < runP innerB l n := runP_pos (by omega) (by unfold innerB; rw [h1]; rfl)
    have hle := runP_le innerB l n
    by_cases h2 : runP innerB l n ≤ 16
    · rw [tok_word (by omega) h1 h2] at h
      cases h
      exact ⟨hle, .inr ⟨by omega, hp⟩⟩
    · rw [tok_wordNo (by omega) h1 (by omega)] at h
      cases h
  | false =>
    cases h2 : digitB (n % 256) with
    | true =>
      have hp : 0 < runP digitB l n := runP_pos (by omega) h2
      have hle := runP_le digitB l n
      by_cases h3 : 9 < runP digitB l n ∨ n % 256 = 48 ∧ 1 < runP digitB l n
      · rw [tok_numNo (by omega) h1 h2 h3] at h
        cases h
      · rw [tok_num (by omega) h1 h2 (by omega) (by omega)] at h
        cases h
        exact ⟨hle, .inr ⟨by omega, hp⟩⟩
    | false =>
      cases h3 : signB (n % 256) with
      | true =>
        rw [tok_sign (by omega) h1 h2 h3] at h
        cases h
        exact ⟨by omega, .inr ⟨by omega, by omega⟩⟩
      | false =>
        rw [tok_none (by omega) h1 h2 h3] at h
        cases h

structure Tok where
  kind : Nat
  num : Nat
  line : Nat
  col : Nat
  len : Nat
  text : Nat

/-- A token's cells. -/
def Tok.row (t : Tok) : List V := [.int .i64 (.ofNat t.kind), .int .i64 (.ofNat t.num), .int .i64 (.ofNat t.line), .int .i64 (.ofNat t.col), .ps t.len t.text]

inductive LexR where
  | ok (l : List Tok)
  | bad (line col : Nat)

def LexR.pre (a : List Tok) : LexR → LexR
  | .ok l => .ok (a ++ l)
  | .bad x y => .bad x y

theorem LexR.pre_nil (r : LexR) : r.pre [] = r := by cases r <;> rfl
theorem LexR.pre_pre (a b : List Tok) (r : LexR) : (r.pre b).pre a = r.pre (a ++ b) := by cases r <;> simp [LexR.pre]

/-- All tokens of a text. -/
def toksF : Nat → Nat → Nat → Nat → Nat → LexR
  | 0, _, _, _, _ => .bad 0 0
  | f + 1, l, n, line, col => match blanksF l l n line col with
    | (l1, n1, line1, col1) => match tokM l1 n1 with
      | none => .bad line1 col1
      | some (kind, num, tl) => match Nat.beq kind 4 with
        | true => .ok [⟨4, 0, line1, col1, 0, 0⟩]
        | false => (toksF f (l1 - tl) (n1 / 256 ^ tl) line1 (col1 + tl)).pre [⟨kind, num, line1, col1, tl, n1 % 256 ^ tl⟩]

theorem toks_bad {f l x li co : Nat} (h : tokM (blanksF l l x li co).1 (blanksF l l x li co).2.1 = none) : toksF (f + 1) l x li co = .bad (blanksF l l x li co).2.2.1 (blanksF l l x li co).2.2.2 := by
  simp only [toksF, h]
theorem toks_end {f l x li co num tl : Nat} (h : tokM (blanksF l l x li co).1 (blanksF l l x li co).2.1 = some (4, num, tl)) : toksF (f + 1) l x li co = .ok [⟨4, 0, (blanksF l l x li co).2.2.1, (blanksF l l x li co).2.2.2, 0, 0⟩] := by
  simp only [toksF, h]
theorem toks_more {f l x li co kind num tl : Nat} (h : tokM (blanksF l l x li co).1 (blanksF l l x li co).2.1 = some (kind, num, tl)) (hk : kind ≠ 4) :
    toksF (f + 1) l x li co = (toksF f ((blanksF l l x li co).1 - tl) ((blanksF l l x li co).2.1 / 256 ^ tl) (blanksF l l x li co).2.2.1 ((blanksF l l x li co).2.2.2 + tl)).pre [⟨kind, num, (blanksF l l x li co).2.2.1, (blanksF l l x li co).2.2.2, tl, (blanksF l l x li co).2.1 % 256 ^ tl⟩] := by
  simp only [toksF, h, beq_false_iff.mpr hk]

/-- Is it among the first bytes of a text? -/
def hasB : Nat → Nat → Nat → Bool
  | 0, _, _ => false
  | l + 1, n, c => match Nat.beq (n % 256) c with
    | true => true
    | false => hasB l (n / 256) c

theorem hasB_step {i l n c : Nat} (h : i < l) : hasB (l - i) (n / 256 ^ i) c = (match Nat.beq (n / 256 ^ i % 256) c with | true => true | false => hasB (l - (i + 1)) (n / 256 ^ (i + 1)) c) := by
  obtain ⟨m, hm⟩ : ∃ m, l - i = m + 1 := ⟨l - i - 1, by omega⟩
  rw [hm, show l - (i + 1) = m by omega, Nat.pow_succ, ← Nat.div_div_eq_div_mul]
  rfl

/-- The piece of a text from a place on: its kind, where it ends. -/
def pieceM (len n i : Nat) : Nat × Nat := match tokM (len - i) (n / 256 ^ i) with
  | none => (0, 0)
  | some (kind, _, tl) => (kind, i + tl)

/-! ### By places of a text -/

theorem div_pow_add (n i k : Nat) : n / 256 ^ i / 256 ^ k = n / 256 ^ (i + k) := by rw [Nat.div_div_eq_div_mul, ← Nat.pow_add]
theorem div_pow_one (n i : Nat) : n / 256 ^ i / 256 = n / 256 ^ (i + 1) := by rw [Nat.div_div_eq_div_mul, ← Nat.pow_succ]

theorem blanksF_fuel : ∀ {f g l n line col : Nat}, l ≤ f → l ≤ g → blanksF f l n line col = blanksF g l n line col
  | 0, g, l, n, line, col, hf, hg => by rw [blanks_end (f := 0) (.inl (by omega)), blanks_end (f := g) (.inl (by omega))]
  | f + 1, 0, l, n, line, col, hf, hg => by rw [blanks_end (f := f + 1) (.inl (by omega)), blanks_end (f := 0) (.inl (by omega))]
  | f + 1, g + 1, l, n, line, col, hf, hg => by
    by_cases h0 : l = 0
    · rw [blanks_end (f := f + 1) (.inl h0), blanks_end (f := g + 1) (.inl h0)]
    by_cases h1 : n % 256 = 32 ∨ n % 256 = 9
    · rw [blanks_blank (by omega) h1, blanks_blank (by omega) h1, blanksF_fuel (f := f) (g := g) (by omega) (by omega)]
    by_cases h2 : n % 256 = 10
    · rw [blanks_line (by omega) h2, blanks_line (by omega) h2, blanksF_fuel (f := f) (g := g) (by omega) (by omega)]
    by_cases h3 : n % 256 = 35
    · have hp : 0 < runP lineB l n := runP_pos (by omega) (by rw [h3]; rfl)
      rw [blanks_word (by omega) h3, blanks_word (by omega) h3, blanksF_fuel (f := f) (g := g) (by omega) (by omega)]
    · rw [blanks_end (f := f + 1) (.inr ⟨by omega, by omega, h2, h3⟩), blanks_end (f := g + 1) (.inr ⟨by omega, by omega, h2, h3⟩)]

/-- From another place on, behind blanks. -/
theorem toks_of_blanks {f l x li co l' x' li' co' : Nat} (h : blanksF l l x li co = blanksF l' l' x' li' co') : toksF (f + 1) l x li co = toksF (f + 1) l' x' li' co' := by
  simp only [toksF, h]

theorem tp_blank {F len n i line from_ : Nat} (hi : i < len) (hf : from_ ≤ i) (hb : n / 256 ^ i % 256 = 32 ∨ n / 256 ^ i % 256 = 9) :
    toksF (F + 1) (len - i) (n / 256 ^ i) line (i - from_ + 1) = toksF (F + 1) (len - (i + 1)) (n / 256 ^ (i + 1)) line (i + 1 - from_ + 1) := by
  refine toks_of_blanks ?_
  obtain ⟨m, hm⟩ : ∃ m, len - i = m + 1 := ⟨len - i - 1, by omega⟩
  rw [hm, blanks_blank (by omega) hb, div_pow_one, show m + 1 - 1 = m by omega, show len - (i + 1) = m by omega, show i - from_ + 1 + 1 = i + 1 - from_ + 1 by omega]
theorem tp_line {F len n i line from_ : Nat} (hi : i < len) (hb : n / 256 ^ i % 256 = 10) :
    toksF (F + 1) (len - i) (n / 256 ^ i) line (i - from_ + 1) = toksF (F + 1) (len - (i + 1)) (n / 256 ^ (i + 1)) (line + 1) (i + 1 - (i + 1) + 1) := by
  refine toks_of_blanks ?_
  obtain ⟨m, hm⟩ : ∃ m, len - i = m + 1 := ⟨len - i - 1, by omega⟩
  rw [hm, blanks_line (by omega) hb, div_pow_one, show m + 1 - 1 = m by omega, show len - (i + 1) = m by omega, show i + 1 - (i + 1) + 1 = 1 by omega]
theorem tp_rem {F len n i line from_ : Nat} (hi : i < len) (hf : from_ ≤ i) (hb : n / 256 ^ i % 256 = 35) :
    toksF (F + 1) (len - i) (n / 256 ^ i) line (i - from_ + 1) = toksF (F + 1) (len - (i + runP lineB (len - i) (n / 256 ^ i))) (n / 256 ^ (i + runP lineB (len - i) (n / 256 ^ i))) line (i + runP lineB (len - i) (n / 256 ^ i) - from_ + 1) := by
  refine toks_of_blanks ?_
  have hp : 0 < runP lineB (len - i) (n / 256 ^ i) := runP_pos (by omega) (by rw [hb]; rfl)
  generalize hk : runP lineB (len - i) (n / 256 ^ i) = k at *
  obtain ⟨m, hm⟩ : ∃ m, len - i = m + 1 := ⟨len - i - 1, by omega⟩
  rw [hm] at hk ⊢
  rw [blanks_word (by omega) hb, hk, div_pow_add, blanksF_fuel (g := m + 1 - k) (by omega) (by omega), show len - (i + k) = m + 1 - k by omega, show i - from_ + 1 + k = i + k - from_ + 1 by omega]
theorem tp_bad {F len n i line from_ : Nat} (hb : n / 256 ^ i % 256 ≠ 32 ∧ n / 256 ^ i % 256 ≠ 9 ∧ n / 256 ^ i % 256 ≠ 10 ∧ n / 256 ^ i % 256 ≠ 35) (h : tokM (len - i) (n / 256 ^ i) = none) :
    toksF (F + 1) (len - i) (n / 256 ^ i) line (i - from_ + 1) = .bad line (i - from_ + 1) := by
  simp only [toksF, blanks_end (.inr hb), h]
theorem tp_more {F len n i line from_ kind num tl : Nat} (hf : from_ ≤ i) (hb : n / 256 ^ i % 256 ≠ 32 ∧ n / 256 ^ i % 256 ≠ 9 ∧ n / 256 ^ i % 256 ≠ 10 ∧ n / 256 ^ i % 256 ≠ 35) (h : tokM (len - i) (n / 256 ^ i) = some (kind, num, tl)) (hk : kind ≠ 4) :
    toksF (F + 1) (len - i) (n / 256 ^ i) line (i - from_ + 1) = (toksF F (len - (i + tl)) (n / 256 ^ (i + tl)) line (i + tl - from_ + 1)).pre [⟨kind, num, line, i - from_ + 1, tl, n / 256 ^ i % 256 ^ tl⟩] := by
  simp only [toksF, blanks_end (.inr hb), h, beq_false_iff.mpr hk, div_pow_add]
  rw [show len - i - tl = len - (i + tl) by omega, show i - from_ + 1 + tl = i + tl - from_ + 1 by omega]
theorem tp_end {F len n line from_ : Nat} : toksF (F + 1) (len - len) (n / 256 ^ len) line (len - from_ + 1) = .ok [⟨4, 0, line, len - from_ + 1, 0, 0⟩] := by
  rw [Nat.sub_self]
  simp only [toksF, blanks_end (.inl rfl), show tokM 0 (n / 256 ^ len) = some (4, 0, 0) from rfl]

theorem tokM_num {l n num tl : Nat} (h : tokM l n = some (2, num, tl)) : tl ≤ 9 ∧ runP digitB tl (n % 256 ^ tl) = tl ∧ num = numP tl (n % 256 ^ tl) 0 := by
  unfold tokM at h
  split at h
  · simp at h
  · split at h
    · split at h <;> simp at h
    · split at h
      · split at h
        · rename_i hc
          simp only [Option.some.injEq, Prod.mk.injEq, true_and] at h
          obtain ⟨h1, h2⟩ := h
          subst h2
          simp only [Bool.and_eq_true, Nat.ble_eq] at hc
          exact ⟨hc.1, by rw [runP_mod (Nat.le_refl _), runP_self], h1.symm⟩
        · simp at h
      · split at h <;> simp at h
theorem tokM_other {l n kind num tl : Nat} (h : tokM l n = some (kind, num, tl)) (hk : kind ≠ 2) : num = 0 := by
  unfold tokM at h
  split at h
  · simp at h; omega
  · split at h
    · split at h <;> simp at h; omega
    · split at h
      · split at h
        · simp at h; omega
        · simp at h
      · split at h <;> simp at h; omega
theorem tokM_kind {l n kind num tl : Nat} (h : tokM l n = some (kind, num, tl)) : kind ≠ 0 := by
  unfold tokM at h
  split at h
  · simp at h; omega
  · split at h
    · split at h <;> simp at h; omega
    · split at h
      · split at h
        · simp at h; omega
        · simp at h
      · split at h <;> simp at h; omega

end Go.Proofs.YtibmbbogjkecoaaDoor.M

/- The plans of this program's drawn regions (printed by plan.lean). -/
namespace Go.Proofs.YtibmbbogjkecoaaDoor.M
open Go
def pl5 (r : Nat) : List Plan := match r with
  | 5 => [.s (.q 0), .s (.q 1), .s (.q 2), .s (.q 3), .s (.l 4 [0, 1, 2, 3, 4, 5, 6, 7, 8, 9, 10]), .s (.l 5 [5, 6, 7, 8, 9, 10]), .s (.q 6), .s (.q 7), .s (.q 8), .s (.q 9), .s (.q 10)]
  | 6 => [.s (.q 0), .s (.q 1), .s (.q 2), .s (.q 3), .s (.l 4 [0, 1, 2, 3, 4, 5, 6, 7, 8, 9, 10]), .s (.l 5 [5, 6, 7, 8, 9, 10]), .s (.q 6), .s (.q 7), .s (.q 8), .s (.q 9), .s (.q 10)]
  | _ => []
def pl10 (r : Nat) : List Plan := match r with
  | 15 => [.s (.q 0), .s (.q 1), .s (.q 2), .s (.q 3), .s (.q 4), .s (.q 5), .s (.q 6), .s (.q 7), .s (.q 8), .s (.l 9 [0, 1, 2, 3, 4, 9, 10, 11, 12, 13, 14]), .s (.q 10), .s (.q 11), .s (.q 12), .s (.q 13), .s (.l 14 [14])]
  | 17 => [.s (.q 0), .s (.q 1), .s (.q 2), .s (.q 3), .s (.q 4), .s (.q 5), .s (.q 6), .s (.q 7), .s (.q 8), .s (.l 9 [0, 1, 2, 3, 4, 9, 10, 11, 12, 13, 14]), .s (.q 10), .s (.q 11), .s (.q 12), .s (.q 13), .s (.l 14 [14])]
  | 19 => [.s (.q 0), .s (.q 1), .s (.q 2), .s (.q 3), .s (.q 4), .s (.q 5), .s (.q 6), .s (.q 7), .s (.q 8), .s (.l 9 [0, 1, 2, 3, 4, 9, 10, 11, 12, 13, 14]), .s (.q 10), .s (.q 11), .s (.q 12), .s (.q 13), .s (.l 14 [14])]
  | 21 => [.s (.q 0), .s (.q 1), .s (.q 2), .s (.q 3), .s (.q 4), .s (.q 5), .s (.q 6), .s (.q 7), .s (.q 8), .s (.l 9 [0, 1, 2, 3, 4, 9, 10, 11, 12, 13, 14]), .s (.q 10), .s (.q 11), .s (.q 12), .s (.q 13), .s (.l 14 [14])]
  | _ => []
def pl12 (r : Nat) : List Plan := match r with
  | 25 => [.s (.q 0), .s (.q 1), .s (.q 2), .s (.q 3), .s (.q 4), .s (.q 5), .s (.q 6), .s (.q 7), .s (.q 8), .s (.q 9), .s (.q 10), .s (.q 11), .s (.q 12), .s (.q 13), .s (.q 14), .s (.q 15), .s (.q 16), .s (.q 17), .s (.q 18), .s (.q 19), .s (.q 20), .s (.q 21), .s (.q 22), .s (.q 23), .s (.q 24), .s (.q 25), .s (.q 26), .s (.q 27), .s (.q 28), .s (.q 29), .s (.q 30), .s (.q 31), .s (.q 32), .s (.q 33), .s (.q 34), .s (.q 35), .s (.q 36), .s (.q 37), .s (.q 38)]
  | _ => []
def pl13 (r : Nat) : List Plan := match r with
  | 7 => [.s (.q 0), .s (.q 1), .s (.q 2), .s (.q 3), .s (.q 4), .s (.q 5), .s (.q 6), .s (.q 7)]
  | _ => []
def pl14 (r : Nat) : List Plan := match r with
  | 4 => [.s (.q 0), .s (.q 1), .s (.q 2), .s (.q 3), .s (.q 4), .s (.q 5), .s (.q 6), .s (.q 7), .s (.l 8 [4, 5, 6, 7, 8, 9, 10]), .s (.l 9 [9, 10]), .s (.l 10 [10])]
  | _ => []
def pl18 (r : Nat) : List Plan := match r with
  | 19 => [.s (.q 0), .s (.q 1), .s (.q 2), .s (.q 3), .s (.q 4), .s (.q 5), .s (.q 6), .s (.q 7), .s (.q 8), .s (.q 9), .s (.q 10), .s (.q 11)]
  | 21 => [.s (.q 0), .s (.q 1), .s (.q 2), .s (.q 3), .s (.q 4), .s (.q 5), .s (.q 6), .s (.q 7), .s (.q 8), .s (.q 9), .s (.q 10), .s (.q 11), .s (.q 12), .s (.q 13), .s (.q 14), .s (.q 15), .s (.q 16), .s (.q 17)]
  | 34 => [.s (.q 0), .s (.q 1), .s (.q 2), .s (.q 3), .s (.q 4), .s (.q 5), .s (.q 6), .s (.q 7), .s (.q 8), .s (.q 9), .s (.q 10), .s (.q 11)]
  | 35 => [.s (.q 0), .s (.q 1), .s (.q 2), .s (.q 6), .s (.q 7), .s (.q 9), .s (.q 10), .s (.q 11), .s (.q 12), .s (.l 3 [0, 3, 4, 5, 6, 7, 8, 9, 10, 11, 12, 13, 14, 15, 16, 17, 18, 19]), .s (.l 4 [0, 4, 5, 6, 7, 8, 9, 10, 11, 12, 13, 14, 15, 16, 17, 18, 19]), .s (.q 5), .s (.q 8), .s (.q 13), .s (.q 14), .s (.q 15), .s (.q 16), .s (.q 17), .s (.q 18), .s (.l 19 [19])]
  | _ => []
def pl19 (r : Nat) : List Plan := match r with
  | 21 => [.s (.q 0), .s (.q 1), .s (.q 2), .s (.q 3), .s (.q 4), .s (.q 5), .s (.q 6), .s (.q 7), .s (.q 8), .s (.q 9), .s (.q 10), .s (.q 11), .s (.q 12), .s (.q 13), .s (.q 14), .s (.q 15), .s (.q 16), .s (.q 17), .s (.q 18), .s (.q 19), .s (.q 20)]
  | 26 => [.s (.q 0), .s (.q 1), .s (.q 2), .s (.q 3), .s (.q 4), .s (.q 5), .s (.q 6), .s (.q 7), .s (.q 8), .s (.q 9), .s (.q 10), .s (.q 11), .s (.q 12), .s (.q 13), .s (.q 14), .s (.q 15), .s (.q 16), .s (.q 17), .s (.q 18), .s (.q 19), .s (.q 20), .s (.q 21), .s (.q 22)]
  | _ => []
def pl21 (r : Nat) : List Plan := match r with
  | 6 => [.s (.q 0), .s (.q 1), .s (.q 2), .s (.q 3), .s (.q 4), .s (.q 5), .s (.q 6), .s (.q 7), .s (.q 8), .s (.q 9), .s (.q 10), .s (.q 11), .s (.q 12), .s (.q 13), .s (.q 14), .s (.l 15 [1, 2, 12, 15, 16, 17, 18, 19, 20, 21]), .s (.q 16), .s (.q 17), .s (.l 18 [2, 18, 19, 20, 21]), .s (.q 19), .s (.q 20), .s (.l 21 [21])]
  | _ => []
def pl22 (r : Nat) : List Plan := match r with
  | 1 => [.s (.q 0), .s (.q 1), .s (.q 2), .s (.q 3), .s (.q 4), .s (.q 5), .s (.q 6), .s (.q 7), .s (.q 8), .s (.l 9 [0, 1, 2, 3, 4, 5, 6, 7, 8, 9, 10]), .s (.l 10 [10])]
  | _ => []
def pl23 (r : Nat) : List Plan := match r with
  | 7 => [.s (.q 0), .s (.q 1), .s (.q 2), .s (.q 3), .s (.q 4), .s (.q 5), .s (.l 6 [4, 5, 6, 7, 8]), .s (.l 7 [4, 5, 7, 8]), .s (.l 8 [8])]
  | _ => []
def pl26 (r : Nat) : List Plan := match r with
  | 1 => [.s (.q 0), .s (.q 1), .s (.q 2), .s (.q 3), .s (.q 4), .s (.q 5), .s (.q 6), .s (.q 7), .s (.l 8 [0, 1, 2, 3, 4, 5, 8, 9, 10]), .s (.l 9 [9, 10]), .s (.l 10 [10])]
  | _ => []
def pl28 (r : Nat) : List Plan := match r with
  | 0 => [.s (.q 0), .s (.q 1), .s (.q 2), .s (.q 3), .s (.q 4), .s (.q 5), .s (.q 6), .s (.q 7), .s (.q 8), .s (.q 9), .s (.q 10), .s (.q 11), .s (.q 12), .s (.q 13), .s (.q 14), .s (.q 15), .s (.l 16 [1, 12, 13, 16, 17, 18, 19]), .s (.q 17), .s (.q 18), .s (.l 19 [19])]
  | _ => []
def pl42 (r : Nat) : List Plan := match r with
  | 1 => [.s (.q 0), .s (.q 1), .s (.q 2), .s (.q 3), .s (.q 4), .s (.q 5), .s (.l 6 [0, 1, 2, 3, 4, 6, 7, 8, 9, 10]), .s (.l 7 [0, 7, 8, 9, 10]), .s (.q 8), .s (.q 9), .s (.l 10 [10])]
  | _ => []
def pl45 (r : Nat) : List Plan := match r with
  | 1 => [.s (.q 0), .s (.q 1), .s (.q 3), .s (.l 2 [0, 2, 3, 4, 5, 6]), .s (.q 4), .s (.l 5 [5, 6]), .s (.q 6)]
  | _ => []
def pl46 (r : Nat) : List Plan := match r with
  | 1 => [.s (.q 0), .s (.q 1), .s (.q 3), .s (.l 2 [0, 2, 3, 4, 5, 6]), .s (.q 4), .s (.l 5 [5, 6]), .s (.q 6)]
  | _ => []
def pl51 (r : Nat) : List Plan := match r with
  | 9 => [.s (.q 0), .s (.q 1), .s (.q 2), .s (.q 3), .s (.q 4), .g [9] [.l 5 [5, 6, 7, 8, 9, 10, 11], .q 6, .q 7, .q 8], .s (.l 10 [8, 10, 11]), .s (.q 11)]
  | 21 => [.s (.q 0), .s (.q 1), .s (.q 2), .s (.q 3), .s (.q 4), .s (.q 5), .s (.q 6), .s (.q 7), .s (.q 8), .s (.q 9), .s (.q 10), .s (.q 11), .s (.q 12), .s (.q 13), .s (.l 14 [1, 11, 14, 15, 16, 17]), .s (.q 15), .s (.q 16), .s (.l 17 [17])]
  | 24 => [.s (.q 0), .s (.q 1), .s (.q 2), .s (.q 3), .s (.q 4), .s (.q 5), .s (.q 6), .s (.q 7), .s (.q 8), .s (.q 9), .s (.q 10), .s (.q 11), .s (.q 12), .s (.q 13), .s (.l 14 [1, 11, 14, 15, 16, 17]), .s (.q 15), .s (.q 16), .s (.l 17 [17])]
  | _ => []
def pl57 (r : Nat) : List Plan := match r with
  | 1 => [.s (.q 0), .s (.q 1), .s (.q 2), .s (.q 3), .s (.q 4), .s (.q 5), .s (.q 6), .s (.q 7), .s (.q 8), .s (.q 9), .s (.l 10 [10])]
  | _ => []
def pl69 (r : Nat) : List Plan := match r with
  | 7 => [.s (.q 0), .s (.q 1), .s (.q 2), .s (.q 3), .s (.q 4), .s (.q 5), .s (.q 6), .s (.q 7), .s (.q 8), .s (.q 9), .s (.q 10), .s (.q 11), .s (.l 12 [3, 4, 5, 9, 10, 12, 13, 14]), .s (.q 13), .s (.l 14 [14])]
  | 8 => [.s (.q 0), .s (.q 1), .s (.q 2), .s (.q 3), .s (.q 4), .s (.q 5), .s (.q 6), .s (.q 7), .s (.q 8), .s (.q 9), .s (.q 10), .s (.q 11), .s (.l 12 [3, 4, 5, 9, 10, 12, 13, 14]), .s (.q 13), .s (.l 14 [14])]
  | 9 => [.s (.q 0), .s (.q 1), .s (.q 2), .s (.q 3), .s (.q 4), .s (.q 5), .s (.q 6), .s (.q 7), .s (.q 8), .s (.q 9), .s (.q 10), .s (.q 11), .s (.l 12 [3, 4, 5, 9, 10, 12, 13, 14]), .s (.q 13), .s (.l 14 [14])]
  | 10 => [.s (.q 0), .s (.q 1), .s (.q 2), .s (.q 3), .s (.q 4), .s (.q 5), .s (.q 6), .s (.q 7), .s (.q 8), .s (.q 9), .s (.q 10), .s (.q 11), .s (.l 12 [3, 4, 5, 9, 10, 12, 13, 14]), .s (.q 13), .s (.l 14 [14])]
  | 17 => [.s (.q 0), .s (.q 1), .s (.q 2), .s (.q 3), .s (.q 4), .s (.q 5), .s (.q 6), .s (.q 7), .s (.q 8), .s (.q 9), .s (.q 10), .s (.q 11), .s (.l 12 [3, 4, 5, 9, 10, 12, 13, 14]), .s (.q 13), .s (.l 14 [14])]
  | 18 => [.s (.q 0), .s (.q 1), .s (.q 2), .s (.q 3), .s (.q 4), .s (.q 5), .s (.q 6), .s (.q 7), .s (.q 8), .s (.q 9), .s (.q 10), .s (.q 11), .s (.l 12 [3, 4, 5, 9, 10, 12, 13, 14]), .s (.q 13), .s (.l 14 [14])]
  | 23 => [.s (.q 0), .s (.q 1), .s (.q 2), .s (.q 3), .s (.q 4), .s (.q 5), .s (.q 6), .s (.q 7), .s (.q 8), .s (.q 9), .s (.q 10), .s (.q 11), .s (.l 12 [3, 4, 5, 9, 10, 12, 13, 14]), .s (.q 13), .s (.l 14 [14])]
  | _ => []
def pl81 (r : Nat) : List Plan := match r with
  | 9 => [.s (.q 0), .s (.q 1), .s (.q 2), .s (.q 3), .s (.q 4), .s (.q 5), .s (.q 6), .s (.q 7), .s (.q 8), .s (.q 9), .s (.q 10), .s (.q 11), .s (.q 12), .s (.q 13), .s (.q 14), .s (.q 15), .s (.q 16), .s (.q 17), .s (.q 18), .s (.q 19)]
  | 18 => [.s (.q 0), .s (.q 1), .s (.q 2), .s (.q 3), .s (.q 4), .s (.q 5), .s (.q 6), .s (.q 7), .s (.q 8), .s (.q 9), .s (.q 10), .s (.q 11), .s (.q 12), .s (.q 13), .s (.q 14), .s (.q 15), .s (.q 16), .s (.q 17), .s (.q 18), .s (.q 19)]
  | _ => []
def pl82 (r : Nat) : List Plan := match r with
  | 9 => [.s (.q 0), .s (.q 1), .s (.q 2), .s (.q 3), .s (.q 4), .s (.q 5), .s (.q 6), .s (.q 7), .s (.q 8), .s (.q 9), .s (.q 10), .s (.q 11), .s (.q 12), .s (.q 13), .s (.q 14), .s (.q 15), .s (.q 16), .s (.q 17), .s (.q 18), .s (.q 19)]
  | _ => []
def ksF (f : FuncId) : List Nat := match f with
  | 14 => [8, 9, 10]
  | _ => []
def plF (f : FuncId) : Nat → List Plan := match f with
  | 5 => pl5
  | 10 => pl10
  | 12 => pl12
  | 13 => pl13
  | 14 => pl14
  | 18 => pl18
  | 19 => pl19
  | 21 => pl21
  | 22 => pl22
  | 23 => pl23
  | 26 => pl26
  | 28 => pl28
  | 42 => pl42
  | 45 => pl45
  | 46 => pl46
  | 51 => pl51
  | 57 => pl57
  | 69 => pl69
  | 81 => pl81
  | 82 => pl82
  | _ => fun _ => []

def glob : Gl := ⟨plF, ksF, false⟩
/-- The same, with rows as lists. -/
def globL : Gl := ⟨plF, ksF, true⟩
end Go.Proofs.YtibmbbogjkecoaaDoor.M

/- All plans may be followed. -/
namespace Go.Proofs.YtibmbbogjkecoaaDoor.M
open Go

/-- Functions one behind the other. -/
def okR (P : Program) (G : Gl) (a n : Nat) : Bool := (List.range n).all fun i => okF P G (Nat.add a i)
theorem okR_ok {P : Program} {G : Gl} {a n : Nat} (h : okR P G a n = true) (f : Nat) (h1 : a ≤ f) (h2 : f < a + n) : okF P G f = true := by
  unfold okR at h
  rw [List.all_eq_true] at h
  have := h (f - a) (List.mem_range.mpr (by omega))
  rwa [show Nat.add a (f - a) = f by show a + (f - a) = f; omega] at this

theorem ok0 : okR Tryd.prog glob 0 12 = true := by kernel_rfl
theorem ok1 : okR Tryd.prog glob 12 12 = true := by kernel_rfl
theorem ok2 : okR Tryd.prog glob 24 12 = true := by kernel_rfl
theorem ok3 : okR Tryd.prog glob 36 12 = true := by kernel_rfl
theorem ok4 : okR Tryd.prog glob 48 12 = true := by kernel_rfl
theorem ok5 : okR Tryd.prog glob 60 12 = true := by kernel_rfl
theorem ok6 : okR Tryd.prog glob 72 12 = true := by kernel_rfl
theorem ok7 : okR Tryd.prog glob 84 12 = true := by kernel_rfl
theorem ok8 : okR Tryd.prog glob 96 12 = true := by kernel_rfl
theorem ok9 : okR Tryd.prog glob 108 7 = true := by kernel_rfl

theorem funcs_size : Tryd.prog.funcs.size = 115 := by kernel_rfl

theorem glob_ok : GOK' Tryd.prog glob := by
  intro f fn c hf hb
  have hlt := getElem?_lt hf
  rw [funcs_size] at hlt
  have key : okF Tryd.prog glob f = true := by
    rcases Nat.lt_or_ge f 12 with g0 | g0
    · exact okR_ok ok0 f (by omega) (by omega)
    rcases Nat.lt_or_ge f 24 with g1 | g1
    · exact okR_ok ok1 f (by omega) (by omega)
    rcases Nat.lt_or_ge f 36 with g2 | g2
    · exact okR_ok ok2 f (by omega) (by omega)
    rcases Nat.lt_or_ge f 48 with g3 | g3
    · exact okR_ok ok3 f (by omega) (by omega)
    rcases Nat.lt_or_ge f 60 with g4 | g4
    · exact okR_ok ok4 f (by omega) (by omega)
    rcases Nat.lt_or_ge f 72 with g5 | g5
    · exact okR_ok ok5 f (by omega) (by omega)
    rcases Nat.lt_or_ge f 84 with g6 | g6
    · exact okR_ok ok6 f (by omega) (by omega)
    rcases Nat.lt_or_ge f 96 with g7 | g7
    · exact okR_ok ok7 f (by omega) (by omega)
    rcases Nat.lt_or_ge f 108 with g8 | g8
    · exact okR_ok ok8 f (by omega) (by omega)
    exact okR_ok ok9 f (by omega) (by omega)
  unfold okF at key
  rw [hf] at key
  simp only [hb] at key
  exact key

theorem globL_ok : GOK' Tryd.prog globL := glob_ok

end Go.Proofs.YtibmbbogjkecoaaDoor.M

/- Helps: arrays made afresh, conditions that are asked for, rounds one by one, closed runs that say true, numbers as rows. -/
namespace Go.Proofs.YtibmbbogjkecoaaDoor.M
open Go
set_option linter.unusedSimpArgs false
set_option linter.unusedVariables false
variable {ρ : Nat → Value}

theorem follows : Tryd.prog.follows .mixedOrders = true := by kernel_rfl
theorem arg1 {q : V} (h : q.flat = true) : ∀ x ∈ [q], Arg2 [] x x := fun x hx => by simp at hx; subst hx; exact .flat _ h
theorem arg2 {q r : V} (h : q.flat = true) (h2 : r.flat = true) : ∀ x ∈ [q, r], Arg2 [] x x := fun x hx => by simp at hx; rcases hx with rfl | rfl <;> (refine .flat _ ?_; assumption)

/-- An array that was made afresh, as what it holds. -/
theorem frz_arr {O : Objs} {k len s : Nat} {full : Bool} {ob : Ob} {rows : List (List V)} (ho : O k = some ob) (hs : ob.s = s) (hl : rows.length = len) (hr : (List.range len).map ob.row = rows.map some)
    (hf : (rows.all fun row => row.all fun q => q.flat && q.one) = true) : Frz (fun _ => True) O (.sl k 0 len full) (.ro s rows) := by
  subst hs hl
  have hrow : ∀ r row', rows[r]? = some row' → ob.row r = some row' := fun r row' h => by
    have hlt : r < rows.length := (List.getElem?_eq_some_iff.mp h).1
    have e := congrArg (fun l => l[r]?) hr
    simp only [List.getElem?_map, List.getElem?_range hlt, h, Option.map_some, Option.some.injEq] at e
    exact e
  refine .cell (.sl k 0 rows.length full ob rows (fun r => (ob.row r).getD []) trivial ho rfl (fun r row' h => ⟨?_, ?_⟩) fun r row' h c q q' h1 h2 => ?_)
  · rw [Nat.zero_add, hrow r row' h]; rfl
  · show row'.length = ((ob.row r).getD []).length
    rw [hrow r row' h]; rfl
  · have h1 : ((ob.row r).getD [])[c]? = some q := h1
    rw [hrow r row' h] at h1
    have h1 : row'[c]? = some q := h1
    rw [h1] at h2
    cases h2
    have := List.all_eq_true.mp (List.all_eq_true.mp hf row' (List.mem_of_getElem? h)) q (List.mem_of_getElem? h1)
    rw [Bool.and_eq_true] at this
    exact .same q this.2 this.1

noncomputable def lexX (r : LexR) (f : List Tok → Ans) (g : Nat → Nat → Ans) : Ans := LexR.rec (motive := fun _ => AnsT) f g r
theorem lexX_inv {r : LexR} {f : List Tok → Ans} {g : Nat → Nat → Ans} (h : lexX r f g = .ok) : (∃ l, r = .ok l ∧ f l = .ok) ∨ ∃ a b, r = .bad a b ∧ g a b = .ok := by
  cases r with
  | ok l => exact .inl ⟨l, rfl, h⟩
  | bad a b => exact .inr ⟨a, b, rfl, h⟩
theorem lex_split {r : LexR} {f : List Tok → Ans} {g : Nat → Nat → Ans} (h1 : ∀ l, r = .ok l → f l = .ok) (h2 : ∀ a b, r = .bad a b → g a b = .ok) : LexR.rec (motive := fun _ => AnsT) f g r = .ok := by
  cases r with
  | ok l => exact h1 l rfl
  | bad a b => exact h2 a b rfl
theorem lex_ok {r : LexR} {l : List Tok} {f : List Tok → Ans} {g : Nat → Nat → Ans} (h : r = .ok l) (hf : f l = .ok) : LexR.rec (motive := fun _ => AnsT) f g r = .ok := by subst h; exact hf
theorem lex_bad {r : LexR} {a b : Nat} {f : List Tok → Ans} {g : Nat → Nat → Ans} (h : r = .bad a b) (hf : g a b = .ok) : LexR.rec (motive := fun _ => AnsT) f g r = .ok := by subst h; exact hf

/-- What is asked for. -/
noncomputable def askP (p : Prop) (k : Ans) : Ans := open Classical in if p then k else .err 9
theorem askP_ok {p : Prop} {k : Ans} (h : p) (hk : k = .ok) : askP p k = .ok := by unfold askP; rw [if_pos h]; exact hk
theorem askP_inv {p : Prop} {k : Ans} (h : askP p k = .ok) : p ∧ k = .ok := by
  unfold askP at h
  split at h
  · exact ⟨by assumption, h⟩
  · cases h

theorem unroll {c : Env → K3 → Tm → Hp → Nat → Ans} {E : Env} {R : Nat} {tm : Tm} {hp : Hp} {nx : Nat} (hR : 0 < R) (h : c E (roundsK c E (R - 1)) tm hp nx = .ok) : roundsK c E R tm hp nx = .ok := by
  obtain ⟨k, rfl⟩ : ∃ k, R = k + 1 := ⟨R - 1, by omega⟩
  exact h

/-- A run without unknowns that says true. -/
theorem says_true {P : Program} (hm : P.follows .mixedOrders = true) {G : Gl} (hG : GOK' P G) (n : Nat) {f : FuncId} (h : isOk (runF P G n f [] [] hp0 0 sayTrue sayNo) = true) : Says ρ P f [] (.bool true) := by
  refine says_frame (fun q hq => by cases hq) ?_
  have := run_sound (ρ := ρ) hm hG n (isOk_ok h)
  rw [absO_hp0, inL_nil] at this
  refine this.mono fun o O m hr => ?_
  cases o with
  | ret v =>
    obtain ⟨hp, _, h⟩ := hr
    obtain ⟨t, h1, h⟩ := V.onBool_inv h
    rcases boolK_inv h with ⟨rfl, _⟩ | ⟨_, h⟩
    · rw [h1]
      exact ⟨_, rfl, .flat _ rfl⟩
    · exact Ans.no h
  | panic v =>
    obtain ⟨hp, _, h⟩ := hr
    exact Ans.no h

def pickRow (z : Int) : List V := [.int .i64 z]

def pickOf (row : List V) : Int := match row with
  | [.int .i64 z] => z
  | _ => 0
theorem picks_of (picks : List Int) : picks.map pickRow = ((picks.map pickRow).map pickOf).map pickRow := by
  rw [List.map_map, List.map_map]
  rfl

end Go.Proofs.YtibmbbogjkecoaaDoor.M

/- columbarykeep: a number within others. -/
namespace Go.Proofs.YtibmbbogjkecoaaDoor.M
open Go
set_option linter.unusedSimpArgs false
set_option linter.unusedVariables false
variable {ρ : Nat → Value}

section
open Go.RowKit
attribute [local irreducible] QC QS QFin in
theorem within_says (n : Int) (b : Nat) (hb : 1 ≤ b) : Says ρ Tryd.prog 7 [.int .i64 n, .int .i64 (.ofNat b)] (.int .i64 (withinM n (.ofNat b))) := by
  intro objs next forb
  refine qcalls_body (fun _ => false) Tryd.func7 rfl ?_
  repeat' first
    | refine q_seq ?_
    | refine q_region ?_
    | refine qs_quiet rfl (qq_move (.inl rfl)) (fun t ht => by cases ht; exact of_decide_eq_true rfl) ?_
    | refine qs_quiet rfl (qq_move (.inr rfl)) (fun t ht => by cases ht; exact of_decide_eq_true rfl) ?_
    | refine qs_quiet rfl (qq_binI rfl rfl rfl rfl) (fun t ht => by cases ht; exact of_decide_eq_true rfl) ?_
    | refine qs_quiet rfl (qq_rem rfl rfl rfl (by have : Int.ofNat b = (b : Int) := rfl; omega)) (fun t ht => by cases ht; exact of_decide_eq_true rfl) ?_
    | refine qs_done ?_
    | refine q_cond2 rfl (fun hc => ?_) (fun hc => ?_)
    | refine q_skip ?_
    | refine q_ret ?_
    | refine fin_tmp rfl rfl rfl ?_
  · exact absurd (of_decide_eq_true hc) (by have : Int.ofNat b = (b : Int) := rfl; omega)
  all_goals refine ⟨?_, rfl, rfl⟩
  · rename_i h1
    have h2 : n.tmod (Int.ofNat b) < 0 := of_decide_eq_true hc
    unfold withinM
    rw [if_pos h2]
    rfl
  · have h2 : ¬ n.tmod (Int.ofNat b) < 0 := of_decide_eq_false hc
    unfold withinM
    rw [if_neg h2]
    rfl
end

attribute [local irreducible] forceN forceZ forceB okIf roundsK valK rowAt
set_option maxRecDepth 100000

def withinN (z : Int) (b : Nat) : Nat := (withinM z (.ofNat b)).toNat
theorem withinN_lt (z : Int) {b : Nat} (hb : 0 < b) (hb2 : b < 1000) : withinN z b < b := by
  obtain ⟨k, h1, h2⟩ := withinM_lt z b hb hb2
  rw [withinN, h2]; exact h1
theorem withinN_eq (z : Int) {b : Nat} (hb : 0 < b) (hb2 : b < 1000) : withinM z (.ofNat b) = .ofNat (withinN z b) := by
  obtain ⟨k, h1, h2⟩ := withinM_lt z b hb hb2
  rw [withinN, h2]; rfl

noncomputable def ovWithin : OvT := ovF fun
  | [.int .i64 z, .int .i64 (.ofNat b)] => some (Nat.ble 1 b && Nat.ble b 999, .int .i64 (.ofNat (withinN z b)))
  | _ => none
theorem ovWithin_ok : OvOK ρ Tryd.prog 7 ovWithin := ov_says fun args v h => by
  split at h
  · rename_i z b
    injection h with h
    injection h with g1 g2
    subst g2
    simp only [Bool.and_eq_true, Nat.ble_eq] at g1
    rw [← withinN_eq z (by omega) (by omega)]
    exact within_says z b g1.1
  · cases h

end Go.Proofs.YtibmbbogjkecoaaDoor.M

/- The lexer's small functions. -/
namespace Go.Proofs.YtibmbbogjkecoaaDoor.M
open Go
set_option linter.unusedSimpArgs false
set_option linter.unusedVariables false
variable {ρ : Nat → Value}

attribute [local irreducible] forceN forceZ forceB okIf roundsK valK rowAt

set_option maxRecDepth 100000

theorem letter_says (c : Nat) : Says ρ Tryd.prog 31 [.int .u8 (.ofNat c)] (.bool (letterB c)) := by
  refine says_run (call := call0) follows globL_ok call0_ok (arg1 rfl) ?_
  repeat' ((conv => lhs; whnf); first | ((conv => lhs; arg 1; whnf); refine valK_ok ?_) | refine forceB_ok ?_ | refine forceN_add ?_ | refine forceN_sub ?_ | refine forceN_suc ?_ | refine forceN_part ?_ | refine forceN_byte ?_ | refine forceN_ok ?_ | refine forceZ_add ?_ | refine forceZ_mul (by (try simp only [maxK]); omega) ?_ | refine forceZ_sub ?_ | refine forceZ_ok ?_ | refine rowAt_ok (byteRows_get (by (try simp only [maxK]); omega)) ?_ | (apply rowAt_ok; (focus assumption)) | refine br_true (Nat.beq_refl _) ?_ | refine br_true (by assumption) ?_ | refine br_false (by assumption) ?_ | refine br_max (by (try simp only [maxK]); omega) ?_ | refine br_ble_t (by (try simp only [maxK]); omega) ?_ | refine br_ble_f (by (try simp only [maxK]); omega) ?_ | refine br_beq_f (by (try simp only [maxK]); omega) ?_ | refine br_true (by simp only [Bool.and_eq_true, Nat.ble_eq]; (try simp only []); omega) ?_ | (refine br_ble (fun h => ?_) (fun h => ?_) <;> (try simp only [] at h)) | (refine br_beq (fun h => ?_) (fun h => ?_) <;> (try simp only [] at h)) | refine br_split (fun h => ?_) (fun h => ?_) | fail)
  all_goals refine okIf_ok (frz_bool ?_)
  all_goals (first | (rw [Bool.eq_iff_iff]; simp only [letterB, Bool.and_eq_true, Bool.or_eq_true, Bool.not_eq_true', Nat.ble_eq, Nat.beq_eq, Bool.false_eq_true, Bool.true_eq_false, true_iff, false_iff, iff_true, iff_false, beq_false_iff, ble_false_iff] <;> omega) | (simp_all [letterB]; done) | (rw [Bool.eq_iff_iff]; simp_all [letterB] <;> omega))

theorem digit_says (c : Nat) : Says ρ Tryd.prog 33 [.int .u8 (.ofNat c)] (.bool (digitB c)) := by
  refine says_run (call := call0) follows globL_ok call0_ok (arg1 rfl) ?_
  repeat' ((conv => lhs; whnf); first | ((conv => lhs; arg 1; whnf); refine valK_ok ?_) | refine forceB_ok ?_ | refine forceN_add ?_ | refine forceN_sub ?_ | refine forceN_suc ?_ | refine forceN_part ?_ | refine forceN_byte ?_ | refine forceN_ok ?_ | refine forceZ_add ?_ | refine forceZ_mul (by (try simp only [maxK]); omega) ?_ | refine forceZ_sub ?_ | refine forceZ_ok ?_ | refine rowAt_ok (byteRows_get (by (try simp only [maxK]); omega)) ?_ | (apply rowAt_ok; (focus assumption)) | refine br_true (Nat.beq_refl _) ?_ | refine br_true (by assumption) ?_ | refine br_false (by assumption) ?_ | refine br_max (by (try simp only [maxK]); omega) ?_ | refine br_ble_t (by (try simp only [maxK]); omega) ?_ | refine br_ble_f (by (try simp only [maxK]); omega) ?_ | refine br_beq_f (by (try simp only [maxK]); omega) ?_ | refine br_true (by simp only [Bool.and_eq_true, Nat.ble_eq]; (try simp only []); omega) ?_ | (refine br_ble (fun h => ?_) (fun h => ?_) <;> (try simp only [] at h)) | (refine br_beq (fun h => ?_) (fun h => ?_) <;> (try simp only [] at h)) | refine br_split (fun h => ?_) (fun h => ?_) | fail)
  all_goals refine okIf_ok (frz_bool ?_)
  all_goals (first | (rw [Bool.eq_iff_iff]; simp only [digitB, Bool.and_eq_true, Bool.or_eq_true, Bool.not_eq_true', Nat.ble_eq, Nat.beq_eq, Bool.false_eq_true, Bool.true_eq_false, true_iff, false_iff, iff_true, iff_false, beq_false_iff, ble_false_iff] <;> omega) | (simp_all [digitB]; done) | (rw [Bool.eq_iff_iff]; simp_all [digitB] <;> omega))

noncomputable def ovB (p : Nat → Bool) : OvT := ovF fun | [.int .u8 (.ofNat c)] => some (true, .bool (p c)) | _ => none

theorem run_says (f : FuncId) (p : Nat → Bool) (hfn : fnOK Tryd.prog f = true) (hf : ∀ c, Says ρ Tryd.prog f [.int .u8 (.ofNat c)] (.bool (p c))) (len n : Nat) (hl : len < 9223372036854775807) : Says ρ Tryd.prog 29 [.ps len n, .fn f []] (.int .i64 (.ofNat (runP p len n))) := by
  have hov : OvOK ρ Tryd.prog f (ovB p) := ov_says fun args v h => by
    split at h
    · cases h; exact hf _
    · cases h
  refine says_run (call := over f (ovB p) call0) follows globL_ok (over_ok hov call0_ok) (fun q hq => by simp at hq; rcases hq with rfl | rfl; exact .flat _ rfl; exact .fn f) ?_
  repeat' ((conv => lhs; whnf); first | ((conv => lhs; arg 1; whnf); refine valK_ok ?_) | refine forceB_ok ?_ | refine forceN_add ?_ | refine forceN_sub ?_ | refine forceN_suc ?_ | refine forceN_part ?_ | refine forceN_byte ?_ | refine forceN_ok ?_ | refine forceZ_add ?_ | refine forceZ_mul (by (try simp only [maxK]); omega) ?_ | refine forceZ_sub ?_ | refine forceZ_ok ?_ | refine rowAt_ok (byteRows_get (by (try simp only [maxK]); omega)) ?_ | (apply rowAt_ok; (focus assumption)) | refine br_true (Nat.beq_refl _) ?_ | refine br_true (by assumption) ?_ | refine br_false (by assumption) ?_ | refine br_max (by (try simp only [maxK]); omega) ?_ | refine br_ble_t (by (try simp only [maxK]); omega) ?_ | refine br_ble_f (by (try simp only [maxK]); omega) ?_ | refine br_beq_f (by (try simp only [maxK]); omega) ?_ | refine br_true (by simp only [Bool.and_eq_true, Nat.ble_eq]; (try simp only []); omega) ?_ | (refine br_ble (fun h => ?_) (fun h => ?_) <;> (try simp only [] at h)) | (refine br_beq (fun h => ?_) (fun h => ?_) <;> (try simp only [] at h)) | refine br_split (fun h => ?_) (fun h => ?_) | fail)
  conv => lhs; whnf
  refine loop_ok (fun m tm hp nx => ∃ i, m = len - i ∧ i ≤ len ∧ runP p len n = i + runP p (len - i) (n / 256 ^ i) ∧ hp = hp0 ∧ get2 tm 0 = .ps len n ∧ get2 tm 1 = .fn f [] ∧ get2 tm 5 = .int .i64 (.ofNat i) ∧ get2 tm 255 = .un) (m := len) (by omega) ⟨0, rfl, by omega, by simp, rfl, rfl, rfl, rfl, rfl⟩ ?_
  rintro m tm hp nx ⟨i, rfl, hi, hr, rfl, e0, e1, e5, e255⟩ k hk
  (obtain ⟨y0, y1, y2, y3, y4, y5, y6, y7, y8, y9, y10, y11, y12, y13, y14, y15⟩ := tm; obtain ⟨x0, x1, x2, x3, x4, x5, x6, x7, x8, x9, x10, x11, x12, x13, x14, x15⟩ := y0; obtain ⟨x16, x17, x18, x19, x20, x21, x22, x23, x24, x25, x26, x27, x28, x29, x30, x31⟩ := y1; obtain ⟨x240, x241, x242, x243, x244, x245, x246, x247, x248, x249, x250, x251, x252, x253, x254, x255⟩ := y15)
  cases e0
  cases e1
  cases e5
  cases e255
  have hs := fun h => @runP_step p i len n h
  repeat' ((conv => lhs; whnf); first | ((conv => lhs; arg 1; whnf); refine valK_ok ?_) | refine forceB_ok ?_ | refine forceN_add ?_ | refine forceN_sub ?_ | refine forceN_suc ?_ | refine forceN_part ?_ | refine forceN_byte ?_ | refine forceN_ok ?_ | refine forceZ_add ?_ | refine forceZ_mul (by (try simp only [maxK]); omega) ?_ | refine forceZ_sub ?_ | refine forceZ_ok ?_ | refine rowAt_ok (byteRows_get (by (try simp only [maxK]); omega)) ?_ | (apply rowAt_ok; (focus assumption)) | refine br_true (Nat.beq_refl _) ?_ | refine br_true (by assumption) ?_ | refine br_false (by assumption) ?_ | refine br_max (by (try simp only [maxK]); omega) ?_ | refine br_ble_t (by (try simp only [maxK]); omega) ?_ | refine br_ble_f (by (try simp only [maxK]); omega) ?_ | refine br_beq_f (by (try simp only [maxK]); omega) ?_ | refine br_true (by simp only [Bool.and_eq_true, Nat.ble_eq]; (try simp only []); omega) ?_ | (refine br_ble (fun h => ?_) (fun h => ?_) <;> (try simp only [] at h)) | (refine br_beq (fun h => ?_) (fun h => ?_) <;> (try simp only [] at h)) | refine br_split (fun h => ?_) (fun h => ?_) | fail)
  all_goals (conv => lhs; whnf)
  · refine hk _ _ _ _ (by omega) ⟨i + 1, rfl, by omega, ?_, rfl, rfl, rfl, rfl, rfl⟩
    rw [hr, hs (by omega), ‹p _ = true›]
  · refine okIf_ok (frz_int ?_)
    rw [hr, hs (by omega), ‹p _ = false›]
  · refine okIf_ok (frz_int ?_)
    rw [hr, show len - i = 0 by omega]
    rfl

theorem inner_says (c : Nat) : Says ρ Tryd.prog 32 [.int .u8 (.ofNat c)] (.bool (innerB c)) := by
  have h1 : OvOK ρ Tryd.prog 31 (ovB letterB) := ov_says fun args v h => by
    split at h
    · cases h; exact letter_says _
    · cases h
  have h2 : OvOK ρ Tryd.prog 33 (ovB digitB) := ov_says fun args v h => by
    split at h
    · cases h; exact digit_says _
    · cases h
  refine says_run (call := over 31 (ovB letterB) (over 33 (ovB digitB) call0)) follows globL_ok (over_ok h1 (over_ok h2 call0_ok)) (arg1 rfl) ?_
  repeat' ((conv => lhs; whnf); first | ((conv => lhs; arg 1; whnf); refine valK_ok ?_) | refine forceB_ok ?_ | refine forceN_add ?_ | refine forceN_sub ?_ | refine forceN_suc ?_ | refine forceN_part ?_ | refine forceN_byte ?_ | refine forceN_ok ?_ | refine forceZ_add ?_ | refine forceZ_mul (by (try simp only [maxK]); omega) ?_ | refine forceZ_sub ?_ | refine forceZ_ok ?_ | refine rowAt_ok (byteRows_get (by (try simp only [maxK]); omega)) ?_ | (apply rowAt_ok; (focus assumption)) | refine br_true (Nat.beq_refl _) ?_ | refine br_true (by assumption) ?_ | refine br_false (by assumption) ?_ | refine br_max (by (try simp only [maxK]); omega) ?_ | refine br_ble_t (by (try simp only [maxK]); omega) ?_ | refine br_ble_f (by (try simp only [maxK]); omega) ?_ | refine br_beq_f (by (try simp only [maxK]); omega) ?_ | refine br_true (by simp only [Bool.and_eq_true, Nat.ble_eq]; (try simp only []); omega) ?_ | (refine br_ble (fun h => ?_) (fun h => ?_) <;> (try simp only [] at h)) | (refine br_beq (fun h => ?_) (fun h => ?_) <;> (try simp only [] at h)) | refine br_split (fun h => ?_) (fun h => ?_) | fail)
  all_goals refine okIf_ok (frz_bool ?_)
  all_goals (first | (rw [Bool.eq_iff_iff]; simp only [innerB, Bool.and_eq_true, Bool.or_eq_true, Bool.not_eq_true', Nat.ble_eq, Nat.beq_eq, Bool.false_eq_true, Bool.true_eq_false, true_iff, false_iff, iff_true, iff_false, beq_false_iff, ble_false_iff] <;> omega) | (simp_all [innerB]; done) | (rw [Bool.eq_iff_iff]; simp_all [innerB] <;> omega))

theorem line_says (c : Nat) : Says ρ Tryd.prog 30 [.int .u8 (.ofNat c)] (.bool (lineB c)) := by
  refine says_run (call := call0) follows globL_ok call0_ok (arg1 rfl) ?_
  repeat' ((conv => lhs; whnf); first | ((conv => lhs; arg 1; whnf); refine valK_ok ?_) | refine forceB_ok ?_ | refine forceN_add ?_ | refine forceN_sub ?_ | refine forceN_suc ?_ | refine forceN_part ?_ | refine forceN_byte ?_ | refine forceN_ok ?_ | refine forceZ_add ?_ | refine forceZ_mul (by (try simp only [maxK]); omega) ?_ | refine forceZ_sub ?_ | refine forceZ_ok ?_ | refine rowAt_ok (byteRows_get (by (try simp only [maxK]); omega)) ?_ | (apply rowAt_ok; (focus assumption)) | refine br_true (Nat.beq_refl _) ?_ | refine br_true (by assumption) ?_ | refine br_false (by assumption) ?_ | refine br_max (by (try simp only [maxK]); omega) ?_ | refine br_ble_t (by (try simp only [maxK]); omega) ?_ | refine br_ble_f (by (try simp only [maxK]); omega) ?_ | refine br_beq_f (by (try simp only [maxK]); omega) ?_ | refine br_true (by simp only [Bool.and_eq_true, Nat.ble_eq]; (try simp only []); omega) ?_ | (refine br_ble (fun h => ?_) (fun h => ?_) <;> (try simp only [] at h)) | (refine br_beq (fun h => ?_) (fun h => ?_) <;> (try simp only [] at h)) | refine br_split (fun h => ?_) (fun h => ?_) | fail)
  all_goals refine okIf_ok (frz_bool ?_)
  all_goals (first | (rw [Bool.eq_iff_iff]; simp only [lineB, Bool.and_eq_true, Bool.or_eq_true, Bool.not_eq_true', Nat.ble_eq, Nat.beq_eq, Bool.false_eq_true, Bool.true_eq_false, true_iff, false_iff, iff_true, iff_false, beq_false_iff, ble_false_iff] <;> omega) | (simp_all [lineB]; done) | (rw [Bool.eq_iff_iff]; simp_all [lineB] <;> omega))

noncomputable def ovRun : OvT := ovF fun
  | [.ps len n, .fn f []] => match f with
      | 32 => some (Nat.ble len 140737488355328, .int .i64 (.ofNat (runP innerB len n)))
      | 33 => some (Nat.ble len 140737488355328, .int .i64 (.ofNat (runP digitB len n)))
      | 30 => some (Nat.ble len 140737488355328, .int .i64 (.ofNat (runP lineB len n)))
      | _ => none
  | _ => none
theorem ovRun_ok : OvOK ρ Tryd.prog 29 ovRun := ov_says fun args v h => by
  split at h
  · split at h
    · injection h with h; injection h with h1 h2; subst h2; have := Nat.le_of_ble_eq_true h1; exact run_says 32 innerB (by kernel_rfl) inner_says _ _ (by omega)
    · injection h with h; injection h with h1 h2; subst h2; have := Nat.le_of_ble_eq_true h1; exact run_says 33 digitB (by kernel_rfl) digit_says _ _ (by omega)
    · injection h with h; injection h with h1 h2; subst h2; have := Nat.le_of_ble_eq_true h1; exact run_says 30 lineB (by kernel_rfl) line_says _ _ (by omega)
    · cases h
  · cases h

theorem ovB_ok {f : FuncId} {p : Nat → Bool} (h : ∀ c, Says ρ Tryd.prog f [.int .u8 (.ofNat c)] (.bool (p c))) : OvOK ρ Tryd.prog f (ovB p) := ov_says fun args v g => by
  split at g
  · cases g; exact h _
  · cases g

/-- Is it a word? -/
def wordM (len n : Nat) : Bool := Nat.ble 1 len && Nat.ble len 16 && letterB (n % 256) && Nat.beq (runP innerB len n) len

theorem word_says (len n : Nat) (hl : len ≤ 140737488355328) : Says ρ Tryd.prog 62 [.ps len n] (.bool (wordM len n)) := by
  refine says_run (call := over 31 (ovB letterB) (over 29 ovRun call0)) follows globL_ok (over_ok (ovB_ok letter_says) (over_ok ovRun_ok call0_ok)) (arg1 rfl) ?_
  repeat' ((conv => lhs; whnf); first | ((conv => lhs; arg 1; whnf); refine valK_ok ?_) | refine forceB_ok ?_ | refine forceN_add ?_ | refine forceN_sub ?_ | refine forceN_suc ?_ | refine forceN_part ?_ | refine forceN_byte ?_ | refine forceN_ok ?_ | refine forceZ_add ?_ | refine forceZ_mul (by (try simp only [maxK]); omega) ?_ | refine forceZ_sub ?_ | refine forceZ_ok ?_ | refine rowAt_ok (byteRows_get (by (try simp only [maxK]); omega)) ?_ | (apply rowAt_ok; (focus assumption)) | refine br_true (Nat.beq_refl _) ?_ | refine br_true (by assumption) ?_ | refine br_false (by assumption) ?_ | refine br_max (by (try simp only [maxK]); omega) ?_ | refine br_ble_t (by (try simp only [maxK]); omega) ?_ | refine br_ble_f (by (try simp only [maxK]); omega) ?_ | refine br_beq_f (by (try simp only [maxK]); omega) ?_ | refine br_true (by simp only [Bool.and_eq_true, Nat.ble_eq]; (try simp only []); omega) ?_ | (refine br_ble (fun h => ?_) (fun h => ?_) <;> (try simp only [] at h)) | (refine br_beq (fun h => ?_) (fun h => ?_) <;> (try simp only [] at h)) | refine br_split (fun h => ?_) (fun h => ?_) | fail)
  all_goals refine okIf_ok (frz_bool ?_)
  all_goals (try simp only [Nat.pow_zero, Nat.div_one] at *)
  all_goals (first | (rw [Bool.eq_iff_iff]; simp only [wordM, Bool.and_eq_true, Bool.or_eq_true, Bool.not_eq_true', Nat.ble_eq, Nat.beq_eq, Bool.false_eq_true, Bool.true_eq_false, true_iff, false_iff, iff_true, iff_false, beq_false_iff, ble_false_iff] <;> omega) | (simp_all [wordM]; done) | (rw [Bool.eq_iff_iff]; simp_all [wordM] <;> omega))

/-- Over so many bytes of one line. -/
theorem skip_says (len n line col k : Nat) (hk : k ≤ len) (hl : len ≤ 140737488355328) (hc : col + k ≤ 9223372036854775807) :
    SaysM ρ Tryd.prog 28 (fun _ _ => False) [.ps len n, .int .i64 (.ofNat line), .int .i64 (.ofNat col)] [.int .i64 (.ofNat k)] (.tup []) [.ps (len - k) (n / 256 ^ k), .int .i64 (.ofNat line), .int .i64 (.ofNat (col + k))] := by
  refine .wf (i := 0) rfl fun hn => ?_
  have e : (fun _ _ => False : Nat → Nat → Prop) = inL [] 0 := by rw [inL_nil]
  rw [e]
  refine saysM_run (call := call0) follows globL_ok call0_ok (fun q hq => by simp at hq; rcases hq with rfl | rfl | rfl <;> rfl) (arg1 rfl) ?_
  repeat' ((conv => lhs; whnf); first | ((conv => lhs; arg 1; whnf); refine valK_ok ?_) | refine forceB_ok ?_ | refine forceN_add ?_ | refine forceN_sub ?_ | refine forceN_suc ?_ | refine forceN_part ?_ | refine forceN_byte ?_ | refine forceN_ok ?_ | refine forceZ_add ?_ | refine forceZ_mul (by (try simp only [maxK]); omega) ?_ | refine forceZ_sub ?_ | refine forceZ_ok ?_ | refine rowAt_ok (byteRows_get (by (try simp only [maxK]); omega)) ?_ | (apply rowAt_ok; (focus assumption)) | refine br_true (Nat.beq_refl _) ?_ | refine br_true (by assumption) ?_ | refine br_false (by assumption) ?_ | refine br_max (by (try simp only [maxK]); omega) ?_ | refine br_ble_t (by (try simp only [maxK]); omega) ?_ | refine br_ble_f (by (try simp only [maxK]); omega) ?_ | refine br_beq_f (by (try simp only [maxK]); omega) ?_ | refine br_true (by simp only [Bool.and_eq_true, Nat.ble_eq]; (try simp only []); omega) ?_ | (refine br_ble (fun h => ?_) (fun h => ?_) <;> (try simp only [] at h)) | (refine br_beq (fun h => ?_) (fun h => ?_) <;> (try simp only [] at h)) | refine br_split (fun h => ?_) (fun h => ?_) | fail)
  conv => lhs; whnf
  refine okIf_ok ⟨frz_nil, frz_row rfl ?_ (by simp [V.flat, V.one])⟩
  rw [part_eq hn hk]

end Go.Proofs.YtibmbbogjkecoaaDoor.M

/- The lexer's reader. -/
namespace Go.Proofs.YtibmbbogjkecoaaDoor.M
open Go
set_option linter.unusedSimpArgs false
set_option linter.unusedVariables false
variable {ρ : Nat → Value}

attribute [local irreducible] forceN forceZ forceB okIf roundsK valK rowAt
set_option maxRecDepth 100000

noncomputable def ovSkip : OvT := ovM fun row args => match row, args with
  | [.ps len n, .int .i64 (.ofNat line), .int .i64 (.ofNat col)], [.int .i64 (.ofNat k)] =>
    some (Nat.ble k len && Nat.ble len 140737488355328 && Nat.ble (col + k) 9223372036854775807, .tup [], [.ps (len - k) (n / 256 ^ k), .int .i64 (.ofNat line), .int .i64 (.ofNat (col + k))])
  | _, _ => none
theorem ovSkip_ok : OvOK ρ Tryd.prog 28 ovSkip := ov_saysM fun row args v row' h => by
  split at h
  · injection h with h
    injection h with h1 h2
    injection h2 with h2 h3
    subst h2 h3
    simp only [Bool.and_eq_true, Nat.ble_eq] at h1
    exact skip_says _ _ _ _ _ h1.1.1 h1.1.2 h1.2
  · cases h

theorem blanks_says (len n line col : Nat) (hl : len ≤ 140737488355328) (hline : line ≤ 140737488355328) (hcol : col ≤ 140737488355328) (R : Nat × Nat × Nat × Nat) (hR : blanksF len len n line col = R) :
    SaysM ρ Tryd.prog 21 (fun _ _ => False) [.ps len n, .int .i64 (.ofNat line), .int .i64 (.ofNat col)] [] (.tup []) [.ps R.1 R.2.1, .int .i64 (.ofNat R.2.2.1), .int .i64 (.ofNat R.2.2.2)] := by
  refine .wf (i := 0) rfl fun hn => ?_
  rw [show (fun _ _ => False : Nat → Nat → Prop) = inL [] 0 by rw [inL_nil]]
  refine saysM_run (call := over 29 ovRun (over 28 ovSkip call0)) follows globL_ok (over_ok ovRun_ok (over_ok ovSkip_ok call0_ok)) (fun q hq => by simp at hq; rcases hq with rfl | rfl | rfl <;> rfl) (fun q hq => by cases hq) ?_
  repeat' ((conv => lhs; whnf); first | ((conv => lhs; arg 1; whnf); refine valK_ok ?_) | refine forceB_ok ?_ | refine forceN_add ?_ | refine forceN_sub ?_ | refine forceN_suc ?_ | refine forceN_part ?_ | refine forceN_byte ?_ | refine forceN_ok ?_ | refine forceZ_add ?_ | refine forceZ_mul (by (try simp only [maxK]); omega) ?_ | refine forceZ_sub ?_ | refine forceZ_ok ?_ | refine rowAt_ok (byteRows_get (by (try simp only [maxK]); omega)) ?_ | (apply rowAt_ok; (focus assumption)) | refine br_true (Nat.beq_refl _) ?_ | refine br_true (by assumption) ?_ | refine br_false (by assumption) ?_ | refine br_max (by (try simp only [maxK]); omega) ?_ | refine br_ble_t (by (try simp only [maxK]); omega) ?_ | refine br_ble_f (by (try simp only [maxK]); omega) ?_ | refine br_beq_f (by (try simp only [maxK]); omega) ?_ | refine br_true (by simp only [Bool.and_eq_true, Nat.ble_eq]; (try simp only []); omega) ?_ | (refine br_ble (fun h => ?_) (fun h => ?_) <;> (try simp only [] at h)) | (refine br_beq (fun h => ?_) (fun h => ?_) <;> (try simp only [] at h)) | refine br_split (fun h => ?_) (fun h => ?_) | fail)
  conv => lhs; whnf
  refine loop_ok (fun m tm hp nx => ∃ l x li co, hp = hpR [.ps l x, .int .i64 (.ofNat li), .int .i64 (.ofNat co)] ∧ x < 256 ^ l ∧ l ≤ m ∧ l ≤ len ∧ li + l ≤ 281474976710656 ∧ co + l ≤ 281474976710656 ∧ blanksF m l x li co = R ∧ get2 tm 0 = .ptr 0 0 0 ∧ get2 tm 255 = .un) (m := len) (by omega) ⟨len, n, line, col, rfl, hn, by omega, by omega, by omega, by omega, hR, rfl, rfl⟩ ?_
  rintro m tm hp nx ⟨l, x, li, co, rfl, hx, hm, hlen, hli, hco, hB, e0, e255⟩ k hk
  (obtain ⟨y0, y1, y2, y3, y4, y5, y6, y7, y8, y9, y10, y11, y12, y13, y14, y15⟩ := tm; obtain ⟨x0, x1, x2, x3, x4, x5, x6, x7, x8, x9, x10, x11, x12, x13, x14, x15⟩ := y0; obtain ⟨x16, x17, x18, x19, x20, x21, x22, x23, x24, x25, x26, x27, x28, x29, x30, x31⟩ := y1; obtain ⟨x32, x33, x34, x35, x36, x37, x38, x39, x40, x41, x42, x43, x44, x45, x46, x47⟩ := y2; obtain ⟨x240, x241, x242, x243, x244, x245, x246, x247, x248, x249, x250, x251, x252, x253, x254, x255⟩ := y15)
  cases e0
  cases e255
  have hrl := runP_le lineB l x
  repeat' ((conv => lhs; whnf); first | ((conv => lhs; arg 1; whnf); refine valK_ok ?_) | refine forceB_ok ?_ | refine forceN_add ?_ | refine forceN_sub ?_ | refine forceN_suc ?_ | refine forceN_part ?_ | refine forceN_byte ?_ | refine forceN_ok ?_ | refine forceZ_add ?_ | refine forceZ_mul (by (try simp only [maxK]); omega) ?_ | refine forceZ_sub ?_ | refine forceZ_ok ?_ | refine rowAt_ok (byteRows_get (by (try simp only [maxK]); omega)) ?_ | (apply rowAt_ok; (focus assumption)) | refine br_true (Nat.beq_refl _) ?_ | refine br_true (by assumption) ?_ | refine br_false (by assumption) ?_ | refine br_max (by (try simp only [maxK]); omega) ?_ | refine br_ble_t (by (try simp only [maxK]); omega) ?_ | refine br_ble_f (by (try simp only [maxK]); omega) ?_ | refine br_beq_f (by (try simp only [maxK]); omega) ?_ | refine br_true (by simp only [Bool.and_eq_true, Nat.ble_eq]; (try simp only []); omega) ?_ | (refine br_ble (fun h => ?_) (fun h => ?_) <;> (try simp only [] at h)) | (refine br_beq (fun h => ?_) (fun h => ?_) <;> (try simp only [] at h)) | refine br_split (fun h => ?_) (fun h => ?_) | fail)
  all_goals (try (conv => lhs; whnf))
  all_goals (try simp only [byte0] at *)
  all_goals (try have hl1 : 1 ≤ l := ‹Nat.succ 0 ≤ l›)
  · obtain ⟨m, rfl⟩ : ∃ j, m = j + 1 := ⟨m - 1, by omega⟩
    rw [blanks_blank hl1 (.inl ‹_›), ← Nat.pow_one 256] at hB
    exact hk m _ _ _ (by omega) ⟨l - 1, x / 256 ^ 1, li, co + 1, rfl, part_lt hx hl1, by omega, by omega, by omega, by omega, hB, rfl, rfl⟩
  · obtain ⟨m, rfl⟩ : ∃ j, m = j + 1 := ⟨m - 1, by omega⟩
    rw [blanks_blank hl1 (.inr ‹_›), ← Nat.pow_one 256] at hB
    exact hk m _ _ _ (by omega) ⟨l - 1, x / 256 ^ 1, li, co + 1, rfl, part_lt hx hl1, by omega, by omega, by omega, by omega, hB, rfl, rfl⟩
  · obtain ⟨m, rfl⟩ : ∃ j, m = j + 1 := ⟨m - 1, by omega⟩
    rw [blanks_line hl1 ‹_›, ← Nat.pow_one 256] at hB
    refine hk m _ _ _ (by omega) ⟨l - 1, x / 256 ^ 1, li + 1, 1, ?_, part_lt hx hl1, by omega, by omega, by omega, by omega, hB, rfl, rfl⟩
    rw [part_eq hx hl1]
    rfl
  · obtain ⟨m, rfl⟩ : ∃ j, m = j + 1 := ⟨m - 1, by omega⟩
    rw [blanks_word hl1 ‹_›] at hB
    have hpos := runP_pos (p := lineB) hl1 (by rw [‹x % 256 = 35›]; rfl)
    exact hk m _ _ _ (by omega) ⟨l - runP lineB l x, x / 256 ^ runP lineB l x, li, co + runP lineB l x, rfl, part_lt hx hrl, by omega, by omega, by omega, by omega, hB, rfl, rfl⟩
  · rw [blanks_end (.inr ⟨‹_›, ‹_›, ‹_›, ‹_›⟩)] at hB
    subst hB
    exact okIf_ok ⟨frz_nil, frz_row rfl rfl (by simp [V.flat, V.one])⟩
  · rw [blanks_end (.inl (by omega))] at hB
    subst hB
    exact okIf_ok ⟨frz_nil, frz_row rfl rfl (by simp [V.flat, V.one])⟩

end Go.Proofs.YtibmbbogjkecoaaDoor.M

/- Numbers, signs. -/
namespace Go.Proofs.YtibmbbogjkecoaaDoor.M
open Go
set_option linter.unusedSimpArgs false
set_option linter.unusedVariables false
variable {ρ : Nat → Value}

/-! ### Where a byte stands in a text -/

theorem qq_indexByte {P : Program} {σ : St} {C : CellP} {o : Oper} {x y : Operand} {ats : Array TypeId} {f : FuncId} {fn : Func} {len n c : Nat} (ho : o.op = .call { callee := .value (.func f), args := #[x, y], argTypes := ats })
    (hf : P.funcs[f]? = some fn) (hname : (fn.name == "runtime.NumGoroutine") = false) (hb : fn.body.isNone = true) (hn : Extern.findNext fn = none) (he : Extern.find fn = some Extern.BytealgIndexByte.indexByte)
    (hx : evalV σ x = .ps len n) (hy : evalV σ y = .int .u8 (.ofNat c)) : QQ ρ P σ C o (.int .i64 (firstIdx (unpack len n) c.toUInt8)) := by
  intro X T a w h
  have e1 := (rep_ps (ev_rep h hx)).1
  have e2 := rep_int (ev_rep h hy)
  refine ⟨_, .pure (.int _ _), fun w' hw hsm => ?_⟩
  have hr := run_callFunc_indexByte (P := P) hf hname hb hn he #[.string (unpack len n), .int .u8 (.ofNat c)] w'
  rw [run_indexByte_string] at hr
  have e3 : a.eval (.func f) = Value.func (Fn.func f) #[] #[] := rfl
  have hr' : (callFunc f #[.string (unpack len n), .int .u8 (c : Int)]).run P w' = .ok (.value (.int .i64 (firstIdx (unpack len n) c.toUInt8))) w' := by
    have h3 : (Int.ofNat c).toNat.toUInt8 = c.toUInt8 := rfl
    rw [h3] at hr
    exact hr
  simp [execOp, ho, resolve, e1, e2, e3, Deferred.ofValue, invoke, hr']

attribute [local irreducible] QC QS QFin in
theorem indexByte46 (len n c : Nat) : Says ρ Tryd.prog 40 [.ps len n, .int .u8 (.ofNat c)] (.int .i64 (firstIdx (unpack len n) c.toUInt8)) := by
  intro objs next forb
  refine qcalls_body (fun _ => false) Tryd.func40 rfl ?_
  repeat' first
    | refine q_seq ?_
    | refine q_region ?_
    | refine qs_quiet rfl (qq_move (.inl rfl)) (fun t ht => by cases ht; exact of_decide_eq_true rfl) ?_
    | refine qs_quiet rfl (qq_move (.inr rfl)) (fun t ht => by cases ht; exact of_decide_eq_true rfl) ?_
    | refine qs_quiet rfl (qq_indexByte rfl Tryd.func49 (by kernel_rfl) (by kernel_rfl) (by kernel_rfl) (by kernel_rfl) rfl rfl) (fun t ht => by cases ht; exact of_decide_eq_true rfl) ?_
    | refine qs_done ?_
    | refine q_skip ?_
    | refine q_ret ?_
    | refine fin_tmp rfl rfl rfl ?_
  exact ⟨rfl, rfl, rfl⟩

attribute [local irreducible] forceN forceZ forceB okIf roundsK valK rowAt
set_option maxRecDepth 100000

def signsL : Nat := 18
def signsN : Nat := packL [40, 41, 123, 125, 91, 93, 44, 59, 58, 61, 46, 43, 45, 42, 60, 94, 33, 63]
theorem sign_idx : ∀ c, c < 256 → (decide (0 ≤ firstIdx (unpack signsL signsN) c.toUInt8) == signB c) = true := by decide +kernel

theorem indexByte39 (len n c : Nat) : Says ρ Tryd.prog 35 [.ps len n, .int .u8 (.ofNat c)] (.int .i64 (firstIdx (unpack len n) c.toUInt8)) := by
  have hov : OvOK ρ Tryd.prog 40 (ovF fun | [.ps len n, .int .u8 (.ofNat c)] => some (true, .int .i64 (firstIdx (unpack len n) c.toUInt8)) | _ => none) := ov_says fun args v h => by
    split at h
    · cases h; exact indexByte46 _ _ _
    · cases h
  refine says_run (call := over 40 _ call0) follows globL_ok (over_ok hov call0_ok) (fun q hq => by simp at hq; rcases hq with rfl | rfl <;> exact .flat _ rfl) ?_
  repeat' ((conv => lhs; whnf); first | ((conv => lhs; arg 1; whnf); refine valK_ok ?_) | refine forceB_ok ?_ | refine forceN_add ?_ | refine forceN_sub ?_ | refine forceN_suc ?_ | refine forceN_part ?_ | refine forceN_byte ?_ | refine forceN_ok ?_ | refine forceZ_add ?_ | refine forceZ_mul (by (try simp only [maxK]); omega) ?_ | refine forceZ_sub ?_ | refine forceZ_ok ?_ | refine rowAt_ok (byteRows_get (by (try simp only [maxK]); omega)) ?_ | (apply rowAt_ok; (focus assumption)) | refine br_true (Nat.beq_refl _) ?_ | refine br_true (by assumption) ?_ | refine br_false (by assumption) ?_ | refine br_max (by (try simp only [maxK]); omega) ?_ | refine br_ble_t (by (try simp only [maxK]); omega) ?_ | refine br_ble_f (by (try simp only [maxK]); omega) ?_ | refine br_beq_f (by (try simp only [maxK]); omega) ?_ | refine br_true (by simp only [Bool.and_eq_true, Nat.ble_eq]; (try simp only []); omega) ?_ | (refine br_ble (fun h => ?_) (fun h => ?_) <;> (try simp only [] at h)) | (refine br_beq (fun h => ?_) (fun h => ?_) <;> (try simp only [] at h)) | refine br_split (fun h => ?_) (fun h => ?_) | fail)
  all_goals exact okIf_ok (frz_int rfl)

/-- Of the signs: whether, and if so where. -/
noncomputable def ovIdx : OvT := fun args _ hp nx kr _ => match args with
  | [.ps l n, .int .u8 (.ofNat c)] => must (Nat.beq l signsL) (must (Nat.beq n signsN) (must (Nat.ble c 255) (boolK (signB c) (kr (.int .i64 (.ofNat (firstIdx (unpack signsL signsN) c.toUInt8).toNat)) hp nx) (kr (.int .i64 (.negSucc 0)) hp nx))))
  | _ => .err 1
theorem ovIdx_ok : OvOK ρ Tryd.prog 35 ovIdx := by
  intro args forb hp nx kr kp h
  unfold ovIdx at h
  split at h
  · rename_i l n c
    obtain ⟨h1, g1⟩ := must_inv h
    obtain ⟨h2, g2⟩ := must_inv g1
    obtain ⟨h3, g3⟩ := must_inv g2
    clear h g1 g2
    replace h1 := Nat.eq_of_beq_eq_true h1
    replace h2 := Nat.eq_of_beq_eq_true h2
    replace h3 := Nat.le_of_ble_eq_true h3
    subst h1 h2
    refine (indexByte39 signsL signsN c (absO hp) nx (inL forb)).mono ?_
    rintro o O m ⟨e1, e2, e3⟩
    subst e1 e2 e3
    have hs := sign_idx c (by omega)
    simp only [beq_iff_eq] at hs
    refine ⟨hp, rfl, ?_⟩
    rcases boolK_inv g3 with ⟨g, h⟩ | ⟨g, h⟩
    · rw [g] at hs
      have := of_decide_eq_true hs
      rw [show firstIdx (unpack signsL signsN) c.toUInt8 = Int.ofNat (firstIdx (unpack signsL signsN) c.toUInt8).toNat by
        show _ = (((firstIdx (unpack signsL signsN) c.toUInt8).toNat : Nat) : Int); omega]
      exact h
    · rw [g] at hs
      have h0 := of_decide_eq_false hs
      have : firstIdx (unpack signsL signsN) c.toUInt8 = -1 := by
        unfold firstIdx at h0 ⊢
        split
        · rename_i i e; rw [e] at h0; simp at h0
        · rfl
      rw [this]
      exact h
  · exact Ans.no h

/-! ### Numbers -/

theorem atoi44 (len n : Nat) (h1 : 1 ≤ len) (h9 : len ≤ 9) (hd : runP digitB len n = len) : Says ρ Tryd.prog 38 [.ps len n] (.tup [.int .i64 (.ofNat (numP len n 0)), .sc .nilIface]) := by
  refine says_run (call := call0) follows globL_ok call0_ok (arg1 rfl) ?_
  have hd0 := runP_all hd h1
  have hdig : ∀ i, i < len → 48 ≤ n / 256 ^ i % 256 ∧ n / 256 ^ i % 256 ≤ 57 := fun i hi => by
    have := runP_all hd hi
    simp only [digitB, Bool.and_eq_true, Nat.ble_eq] at this
    exact this
  have hdig0 := hdig 0 h1
  repeat' ((conv => lhs; whnf); first | ((conv => lhs; arg 1; whnf); refine valK_ok ?_) | refine forceB_ok ?_ | refine forceN_add ?_ | refine forceN_sub ?_ | refine forceN_suc ?_ | refine forceN_part ?_ | refine forceN_byte ?_ | refine forceN_ok ?_ | refine forceZ_add ?_ | refine forceZ_mul (by (try simp only [maxK]); omega) ?_ | refine forceZ_sub ?_ | refine forceZ_ok ?_ | refine rowAt_ok (byteRows_get (by (try simp only [maxK]); omega)) ?_ | (apply rowAt_ok; (focus assumption)) | refine br_true (Nat.beq_refl _) ?_ | refine br_true (by assumption) ?_ | refine br_false (by assumption) ?_ | refine br_max (by (try simp only [maxK]); omega) ?_ | refine br_ble_t (by (try simp only [maxK]); omega) ?_ | refine br_ble_f (by (try simp only [maxK]); omega) ?_ | refine br_beq_f (by (try simp only [maxK]); omega) ?_ | refine br_true (by simp only [Bool.and_eq_true, Nat.ble_eq]; (try simp only []); omega) ?_ | (refine br_ble (fun h => ?_) (fun h => ?_) <;> (try simp only [] at h)) | (refine br_beq (fun h => ?_) (fun h => ?_) <;> (try simp only [] at h)) | refine br_split (fun h => ?_) (fun h => ?_) | fail)
  conv => lhs; whnf
  refine loop_ok (fun m tm hp nx => ∃ i a, m = len - i ∧ i ≤ len ∧ a < 10 ^ i ∧ hp = hp0 ∧ numP len n 0 = numP (len - i) (n / 256 ^ i) a ∧ get2 tm 0 = .ps len n ∧ get2 tm 5 = .ps len n ∧ get2 tm 6 = .int .i64 (.ofNat a) ∧ get2 tm 47 = .ro 1 (byteRows len n) ∧ get2 tm 48 = .int .i64 (.ofNat (byteRows len n).length) ∧ get2 tm 49 = .int .i64 (.ofNat i) ∧ get2 tm 255 = .un) (m := len) (by omega)
    ⟨0, 0, rfl, by omega, by simp, rfl, by simp, rfl, rfl, rfl, rfl, rfl, rfl, rfl⟩ ?_
  rintro m tm hp nx ⟨i, a, rfl, hi, ha, rfl, hv, e0, e5, e6, e47, e48, e49, e255⟩ k hk
  (obtain ⟨y0, y1, y2, y3, y4, y5, y6, y7, y8, y9, y10, y11, y12, y13, y14, y15⟩ := tm; obtain ⟨x0, x1, x2, x3, x4, x5, x6, x7, x8, x9, x10, x11, x12, x13, x14, x15⟩ := y0; obtain ⟨x16, x17, x18, x19, x20, x21, x22, x23, x24, x25, x26, x27, x28, x29, x30, x31⟩ := y1; obtain ⟨x32, x33, x34, x35, x36, x37, x38, x39, x40, x41, x42, x43, x44, x45, x46, x47⟩ := y2; obtain ⟨x48, x49, x50, x51, x52, x53, x54, x55, x56, x57, x58, x59, x60, x61, x62, x63⟩ := y3; obtain ⟨x64, x65, x66, x67, x68, x69, x70, x71, x72, x73, x74, x75, x76, x77, x78, x79⟩ := y4; obtain ⟨x240, x241, x242, x243, x244, x245, x246, x247, x248, x249, x250, x251, x252, x253, x254, x255⟩ := y15)
  cases e0
  cases e5
  cases e6
  cases e47
  cases e48
  cases e49
  cases e255
  have hpow : 10 ^ i ≤ 10 ^ 9 := Nat.pow_le_pow_right (by omega) (by omega)
  have hbl := byteRows_length len n
  have hdi := hdig i
  have hst := fun h => @numP_step i len n a h
  by_cases hlt : i < len
  · have hdi := hdi hlt
    have hst := hst hlt
    clear hdig
    repeat' ((conv => lhs; whnf); first | ((conv => lhs; arg 1; whnf); refine valK_ok ?_) | refine forceB_ok ?_ | refine forceN_add ?_ | refine forceN_sub ?_ | refine forceN_suc ?_ | refine forceN_part ?_ | refine forceN_byte ?_ | refine forceN_ok ?_ | refine forceZ_add ?_ | refine forceZ_mul (by (try simp only [maxK]); omega) ?_ | refine forceZ_sub ?_ | refine forceZ_ok ?_ | refine rowAt_ok (byteRows_get (by (try simp only [maxK]); omega)) ?_ | (apply rowAt_ok; (focus assumption)) | refine br_true (Nat.beq_refl _) ?_ | refine br_true (by assumption) ?_ | refine br_false (by assumption) ?_ | refine br_max (by (try simp only [maxK]); omega) ?_ | refine br_ble_t (by (try simp only [maxK]); omega) ?_ | refine br_ble_f (by (try simp only [maxK]); omega) ?_ | refine br_beq_f (by (try simp only [maxK]); omega) ?_ | refine br_true (by simp only [Bool.and_eq_true, Nat.ble_eq]; (try simp only []); omega) ?_ | (refine br_ble (fun h => ?_) (fun h => ?_) <;> (try simp only [] at h)) | (refine br_beq (fun h => ?_) (fun h => ?_) <;> (try simp only [] at h)) | refine br_split (fun h => ?_) (fun h => ?_) | fail)
    conv => lhs; whnf
    refine hk _ _ _ _ (by omega) ⟨i + 1, _, rfl, by omega, ?_, rfl, hv.trans hst, rfl, rfl, rfl, rfl, rfl, rfl, rfl⟩
    rw [Nat.pow_succ]
    omega
  · repeat' ((conv => lhs; whnf); first | ((conv => lhs; arg 1; whnf); refine valK_ok ?_) | refine forceB_ok ?_ | refine forceN_add ?_ | refine forceN_sub ?_ | refine forceN_suc ?_ | refine forceN_part ?_ | refine forceN_byte ?_ | refine forceN_ok ?_ | refine forceZ_add ?_ | refine forceZ_mul (by (try simp only [maxK]); omega) ?_ | refine forceZ_sub ?_ | refine forceZ_ok ?_ | refine rowAt_ok (byteRows_get (by (try simp only [maxK]); omega)) ?_ | (apply rowAt_ok; (focus assumption)) | refine br_true (Nat.beq_refl _) ?_ | refine br_true (by assumption) ?_ | refine br_false (by assumption) ?_ | refine br_max (by (try simp only [maxK]); omega) ?_ | refine br_ble_t (by (try simp only [maxK]); omega) ?_ | refine br_ble_f (by (try simp only [maxK]); omega) ?_ | refine br_beq_f (by (try simp only [maxK]); omega) ?_ | refine br_true (by simp only [Bool.and_eq_true, Nat.ble_eq]; (try simp only []); omega) ?_ | (refine br_ble (fun h => ?_) (fun h => ?_) <;> (try simp only [] at h)) | (refine br_beq (fun h => ?_) (fun h => ?_) <;> (try simp only [] at h)) | refine br_split (fun h => ?_) (fun h => ?_) | fail)
    refine okIf_ok (frz_cons (frz_int ?_) (frz_cons (.flat _ rfl) frz_nil))
    rw [hv, show len - i = 0 by omega]
    rfl

theorem atoi (len n : Nat) (h1 : 1 ≤ len) (h9 : len ≤ 9) (hd : runP digitB len n = len) : Says ρ Tryd.prog 34 [.ps len n] (.tup [.int .i64 (.ofNat (numP len n 0)), .sc .nilIface]) := by
  have hov : OvOK ρ Tryd.prog 38 (ovF fun | [.ps len n] => some (Nat.ble 1 len && Nat.ble len 9 && Nat.beq (runP digitB len n) len, .tup [.int .i64 (.ofNat (numP len n 0)), .sc .nilIface]) | _ => none) := ov_says fun args v h => by
    split at h
    · injection h with h
      injection h with g1 g2
      subst g2
      simp only [Bool.and_eq_true, Nat.ble_eq, Nat.beq_eq] at g1
      exact atoi44 _ _ g1.1.1 g1.1.2 g1.2
    · cases h
  have hc : (Nat.ble 1 len && Nat.ble len 9 && Nat.beq (runP digitB len n) len) = true := by simp only [Bool.and_eq_true, Nat.ble_eq, Nat.beq_eq]; exact ⟨⟨h1, h9⟩, hd⟩
  refine says_run (call := over 38 _ call0) follows globL_ok (over_ok hov call0_ok) (arg1 rfl) ?_
  repeat' ((conv => lhs; whnf); first | ((conv => lhs; arg 1; whnf); refine valK_ok ?_) | refine forceB_ok ?_ | refine forceN_add ?_ | refine forceN_sub ?_ | refine forceN_suc ?_ | refine forceN_part ?_ | refine forceN_byte ?_ | refine forceN_ok ?_ | refine forceZ_add ?_ | refine forceZ_mul (by (try simp only [maxK]); omega) ?_ | refine forceZ_sub ?_ | refine forceZ_ok ?_ | refine rowAt_ok (byteRows_get (by (try simp only [maxK]); omega)) ?_ | (apply rowAt_ok; (focus assumption)) | refine br_true (Nat.beq_refl _) ?_ | refine br_true (by assumption) ?_ | refine br_false (by assumption) ?_ | refine br_max (by (try simp only [maxK]); omega) ?_ | refine br_ble_t (by (try simp only [maxK]); omega) ?_ | refine br_ble_f (by (try simp only [maxK]); omega) ?_ | refine br_beq_f (by (try simp only [maxK]); omega) ?_ | refine br_true (by simp only [Bool.and_eq_true, Nat.ble_eq]; (try simp only []); omega) ?_ | (refine br_ble (fun h => ?_) (fun h => ?_) <;> (try simp only [] at h)) | (refine br_beq (fun h => ?_) (fun h => ?_) <;> (try simp only [] at h)) | refine br_split (fun h => ?_) (fun h => ?_) | fail)
  all_goals exact okIf_ok (frz_cons (frz_int rfl) (frz_cons (.flat _ rfl) frz_nil))

noncomputable def ovAtoi : OvT := ovF fun
  | [.ps len n] => some (Nat.ble 1 len && Nat.ble len 9 && Nat.beq (runP digitB len n) len, .tup [.int .i64 (.ofNat (numP len n 0)), .sc .nilIface])
  | _ => none
theorem ovAtoi_ok : OvOK ρ Tryd.prog 34 ovAtoi := ov_says fun args v h => by
  split at h
  · injection h with h
    injection h with g1 g2
    subst g2
    simp only [Bool.and_eq_true, Nat.ble_eq, Nat.beq_eq] at g1
    exact atoi _ _ g1.1.1 g1.1.2 g1.2
  · cases h

end Go.Proofs.YtibmbbogjkecoaaDoor.M

/- One token. -/
namespace Go.Proofs.YtibmbbogjkecoaaDoor.M
open Go
set_option linter.unusedSimpArgs false
set_option linter.unusedVariables false
variable {ρ : Nat → Value}

attribute [local irreducible] forceN forceZ forceB okIf roundsK valK rowAt
set_option maxRecDepth 100000

/-- What a reader hands out. -/
def tokOut (n line col : Nat) : Option (Nat × Nat × Nat) → V
  | some (kind, num, k) => .tup [.agg [.int .i64 (.ofNat kind), .int .i64 (.ofNat num), .int .i64 (.ofNat line), .int .i64 (.ofNat col), .ps k (n % 256 ^ k)], .bool true]
  | none => .tup [.agg [.int .i64 (.ofNat 0), .int .i64 (.ofNat 0), .int .i64 (.ofNat line), .int .i64 (.ofNat col), .ps 0 0], .bool false]
def tokRow (len n line col : Nat) : Option (Nat × Nat × Nat) → List V
  | some (_, _, k) => [.ps (len - k) (n / 256 ^ k), .int .i64 (.ofNat line), .int .i64 (.ofNat (col + k))]
  | none => [.ps len n, .int .i64 (.ofNat line), .int .i64 (.ofNat col)]

theorem token_says (len n line col : Nat) (hl : len ≤ 140737488355328) (hcol : col ≤ 281474976710656) :
    SaysM ρ Tryd.prog 22 (fun _ _ => False) [.ps len n, .int .i64 (.ofNat line), .int .i64 (.ofNat col)] [] (tokOut n line col (tokM len n)) (tokRow len n line col (tokM len n)) := by
  refine .wf (i := 0) rfl fun hn => ?_
  rw [show (fun _ _ => False : Nat → Nat → Prop) = inL [] 0 by rw [inL_nil]]
  refine saysM_run (call := over 31 (ovB letterB) (over 33 (ovB digitB) (over 29 ovRun (over 28 ovSkip (over 34 ovAtoi (over 35 ovIdx call0)))))) follows globL_ok
    (over_ok (ovB_ok letter_says) (over_ok (ovB_ok digit_says) (over_ok ovRun_ok (over_ok ovSkip_ok (over_ok ovAtoi_ok (over_ok ovIdx_ok call0_ok)))))) (fun q hq => by simp at hq; rcases hq with rfl | rfl | rfl <;> rfl) (fun q hq => by cases hq) ?_
  have hrun1 := runP_le innerB len n
  have hrun2 := runP_le digitB len n
  have es : ({ data := #[] } : ByteArray).size = 0 := rfl
  have ep : packL [] = 0 := rfl
  have hb0 := byte0 n
  have hmod := @runP_mod digitB (runP digitB len n) (runP digitB len n) n (Nat.le_refl _)
  have hself := @runP_self digitB len n
  have hend : ∀ (N : Nat → Prop) (O : Objs) (a b c d : Nat) (k m k' m' : Nat) (t : Bool), k = k' → m = m' → Frz N O (.tup [.agg [.int .i64 (.ofNat a), .int .i64 (.ofNat b), .int .i64 (.ofNat c), .int .i64 (.ofNat d), .ps k m], .bool t]) (.tup [.agg [.int .i64 (.ofNat a), .int .i64 (.ofNat b), .int .i64 (.ofNat c), .int .i64 (.ofNat d), .ps k' m'], .bool t]) :=
    fun N O a b c d k m k' m' t e1 e2 => frz_cons (frz_agg (frz_cons (frz_int rfl) (frz_cons (frz_int rfl) (frz_cons (frz_int rfl) (frz_cons (frz_int rfl) (frz_cons (frz_ps e1 e2) frz_nil)))))) (frz_cons (frz_bool rfl) frz_nil)
  have hrow3 : ∀ {k m a b : Nat}, ∀ q ∈ [V.ps k m, V.int .i64 (.ofNat a), V.int .i64 (.ofNat b)], q.flat = true ∧ q.one = true := fun q hq => by simp at hq; rcases hq with rfl | rfl | rfl <;> exact ⟨rfl, rfl⟩
  have hcond : 1 ≤ runP digitB len n → runP digitB len n ≤ 9 → (Nat.ble 1 (runP digitB len n) && Nat.ble (runP digitB len n) 9 && Nat.beq (runP digitB (runP digitB len n) (n / 256 ^ 0 % 256 ^ runP digitB len n)) (runP digitB len n)) = true := fun g1 g2 => by
    simp only [Nat.pow_zero, Nat.div_one, hmod, hself, Nat.beq_refl, Bool.and_true, Bool.and_eq_true, Nat.ble_eq]
    exact ⟨g1, g2⟩
  by_cases h0 : len = 0
  · subst h0
    have hn0 : n = 0 := by simpa using hn
    subst hn0
    repeat' ((conv => lhs; whnf); first | ((conv => lhs; arg 1; whnf); refine valK_ok ?_) | refine forceB_ok ?_ | refine forceN_add ?_ | refine forceN_sub ?_ | refine forceN_suc ?_ | refine forceN_part ?_ | refine forceN_byte ?_ | refine forceN_ok ?_ | refine forceZ_add ?_ | refine forceZ_mul (by (try simp only [maxK]); omega) ?_ | refine forceZ_sub ?_ | refine forceZ_ok ?_ | refine rowAt_ok (byteRows_get (by (try simp only [maxK]); omega)) ?_ | (apply rowAt_ok; (focus assumption)) | refine br_true (Nat.beq_refl _) ?_ | refine br_true (by assumption) ?_ | refine br_false (by assumption) ?_ | refine br_max (by (try simp only [maxK]); omega) ?_ | refine br_ble_t (by (try simp only [maxK]); omega) ?_ | refine br_ble_f (by (try simp only [maxK]); omega) ?_ | refine br_beq_f (by (try simp only [maxK]); omega) ?_ | refine br_true (by simp only [Bool.and_eq_true, Nat.ble_eq]; (try simp only []); omega) ?_ | (refine br_ble (fun h => ?_) (fun h => ?_) <;> (try simp only [] at h)) | (refine br_beq (fun h => ?_) (fun h => ?_) <;> (try simp only [] at h)) | refine br_split (fun h => ?_) (fun h => ?_) | fail)
    exact okIf_ok ⟨hend _ _ 4 0 line col 0 0 _ _ true rfl rfl, frz_row (row := [.ps 0 0, .int .i64 (.ofNat line), .int .i64 (.ofNat col)]) rfl rfl hrow3⟩
  have hpos : 0 < len := by omega
  repeat' ((conv => lhs; whnf); first | ((conv => lhs; arg 1; whnf); refine valK_ok ?_) | refine forceB_ok ?_ | refine forceN_add ?_ | refine forceN_sub ?_ | refine forceN_suc ?_ | refine forceN_part ?_ | refine forceN_byte ?_ | refine forceN_ok ?_ | refine forceZ_add ?_ | refine forceZ_mul (by (try simp only [maxK]); omega) ?_ | refine forceZ_sub ?_ | refine forceZ_ok ?_ | refine rowAt_ok (byteRows_get (by (try simp only [maxK]); omega)) ?_ | (apply rowAt_ok; (focus assumption)) | refine br_true (Nat.beq_refl _) ?_ | refine br_true (by assumption) ?_ | refine br_false (by assumption) ?_ | refine br_max (by (try simp only [maxK]); omega) ?_ | refine br_ble_t (by (try simp only [maxK]); omega) ?_ | refine br_ble_f (by (try simp only [maxK]); omega) ?_ | refine br_beq_f (by (try simp only [maxK]); omega) ?_ | refine br_true (by simp only [Bool.and_eq_true, Nat.ble_eq]; (try simp only []); omega) ?_ | (refine br_ble (fun h => ?_) (fun h => ?_) <;> (try simp only [] at h)) | (refine br_beq (fun h => ?_) (fun h => ?_) <;> (try simp only [] at h)) | refine br_split (fun h => ?_) (fun h => ?_) | fail)
  all_goals (try (conv => lhs; whnf))
  all_goals (try simp only [byte0, Nat.sub_zero] at *)
  · rw [tok_wordNo hpos ‹_› (by omega)]
    exact okIf_ok ⟨hend _ _ 0 0 line col 0 0 _ _ false rfl rfl, frz_row rfl rfl hrow3⟩
  · rw [tok_word hpos ‹_› (by omega)]
    exact okIf_ok ⟨hend _ _ 1 0 line col _ _ _ _ true rfl (by rw [Nat.pow_zero, Nat.div_one]), frz_row rfl rfl hrow3⟩
  · rw [tok_numNo hpos ‹_› ‹_› (.inl (by omega))]
    exact okIf_ok ⟨hend _ _ 0 0 line col 0 0 _ _ false rfl rfl, frz_row rfl rfl hrow3⟩
  · rw [tok_numNo hpos ‹_› ‹_› (.inr ⟨by omega, by omega⟩)]
    exact okIf_ok ⟨hend _ _ 0 0 line col 0 0 _ _ false rfl rfl, frz_row rfl rfl hrow3⟩
  · rw [tok_num hpos ‹letterB (n % 256) = false› ‹digitB (n % 256) = true› (by omega) (.inr (by omega))]
    simp only [Nat.pow_zero, Nat.div_one]
    exact okIf_ok ⟨hend _ _ 2 _ line col _ _ _ _ true rfl rfl, frz_row rfl rfl hrow3⟩
  · have hp2 := runP_pos (p := digitB) hpos ‹digitB (n % 256) = true›
    have hc2 := hcond (by omega) (by omega)
    rw [‹(Nat.ble 1 (runP digitB len n) && Nat.ble (runP digitB len n) 9 && Nat.beq (runP digitB (runP digitB len n) (n / 256 ^ 0 % 256 ^ runP digitB len n)) (runP digitB len n)) = false›] at hc2
    cases hc2
  · rw [tok_num hpos ‹letterB (n % 256) = false› ‹digitB (n % 256) = true› (by omega) (.inl (by omega))]
    simp only [Nat.pow_zero, Nat.div_one]
    exact okIf_ok ⟨hend _ _ 2 _ line col _ _ _ _ true rfl rfl, frz_row rfl rfl hrow3⟩
  · have hp2 := runP_pos (p := digitB) hpos ‹digitB (n % 256) = true›
    have hc2 := hcond (by omega) (by omega)
    rw [‹(Nat.ble 1 (runP digitB len n) && Nat.ble (runP digitB len n) 9 && Nat.beq (runP digitB (runP digitB len n) (n / 256 ^ 0 % 256 ^ runP digitB len n)) (runP digitB len n)) = false›] at hc2
    cases hc2
  · rw [tok_sign hpos ‹letterB (n % 256) = false› ‹digitB (n % 256) = false› ‹signB (n % 256) = true›]
    simp only [Nat.pow_zero, Nat.div_one]
    exact okIf_ok ⟨hend _ _ 3 0 line col _ _ _ _ true rfl rfl, frz_row rfl rfl hrow3⟩
  · rw [tok_none hpos ‹letterB (n % 256) = false› ‹digitB (n % 256) = false› ‹signB (n % 256) = false›]
    exact okIf_ok ⟨hend _ _ 0 0 line col 0 0 _ _ false rfl rfl, frz_row rfl rfl hrow3⟩

end Go.Proofs.YtibmbbogjkecoaaDoor.M

/- All tokens of a text. -/
namespace Go.Proofs.YtibmbbogjkecoaaDoor.M
open Go
set_option linter.unusedSimpArgs false
set_option linter.unusedVariables false
variable {ρ : Nat → Value}

attribute [local irreducible] forceN forceZ forceB okIf roundsK valK rowAt
set_option maxRecDepth 100000

noncomputable def ovBlanks : OvT := ovM fun row args => match row, args with
  | [.ps len n, .int .i64 (.ofNat line), .int .i64 (.ofNat col)], [] =>
    some (Nat.ble len 140737488355328 && Nat.ble line 140737488355328 && Nat.ble col 140737488355328, .tup [],
      [.ps (blanksF len len n line col).1 (blanksF len len n line col).2.1, .int .i64 (.ofNat (blanksF len len n line col).2.2.1), .int .i64 (.ofNat (blanksF len len n line col).2.2.2)])
  | _, _ => none
theorem ovBlanks_ok : OvOK ρ Tryd.prog 21 ovBlanks := ov_saysM fun row args v row' h => by
  split at h
  · injection h with h
    injection h with h1 h2
    injection h2 with h2 h3
    subst h2 h3
    simp only [Bool.and_eq_true, Nat.ble_eq] at h1
    exact blanks_says _ _ _ _ h1.1.1 h1.1.2 h1.2 _ rfl
  · cases h

noncomputable def ovToken : OvT := fun args forb hp nx kr _ => match args with
  | [.ptr k 0 0] => (acc4 KOb k).get hp fun ob => match ob with
    | .cell [.ps len n, .int .i64 (.ofNat line), .int .i64 (.ofNat col)] => must (Nat.ble len 140737488355328) (must (Nat.ble col 281474976710656) (noneK k forb
        (optX (tokM len n) ((acc4 KOb k).upd hp (.cell (tokRow len n line col none)) fun hp' => kr (tokOut n line col none) hp' nx)
          (fun t => (acc4 KOb k).upd hp (.cell (tokRow len n line col (some t))) fun hp' => kr (tokOut n line col (some t)) hp' nx))))
    | _ => .err 3
  | _ => .err 4
theorem ovToken_ok : OvOK ρ Tryd.prog 22 ovToken := by
  intro args forb hp nx kr kp h0
  unfold ovToken at h0
  split at h0
  · rename_i k
    obtain ⟨hlt, h1⟩ := acc4_get h0
    split at h1
    · rename_i ob len n line col hob
      obtain ⟨c1, h2⟩ := must_inv h1
      obtain ⟨c2, h3⟩ := must_inv h2
      obtain ⟨hn, h4⟩ := noneK_inv h3
      have key := token_says (ρ := ρ) len n line col (Nat.le_of_ble_eq_true c1) (Nat.le_of_ble_eq_true c2) (absO hp) nx (inL forb) k (by unfold absO; rw [if_pos hlt, hob]; rfl) (fun r c hx => (hn r c hx).elim)
      refine key.mono ?_
      rintro o O m ⟨e1, e2, e3⟩
      subst e1 e2 e3
      rcases optX_inv h4 with ⟨e, h5⟩ | ⟨t, e, h5⟩
      · obtain ⟨_, h6⟩ := acc4_upd h5
        rw [e]
        exact ⟨put4 hp k (.cell (tokRow len n line col none)), by rw [absO_put hlt]; rfl, h6⟩
      · obtain ⟨_, h6⟩ := acc4_upd h5
        rw [e]
        exact ⟨put4 hp k (.cell (tokRow len n line col (some t))), by rw [absO_put hlt]; rfl, h6⟩
    · exact Ans.no h1
  · exact Ans.no h0

attribute [local irreducible] acc4 get4 put4

/-- What Tokens answers. -/
def toksOut : LexR → V
  | .ok l => .tup [.ro 5 (l.map Tok.row), .int .i64 (.ofNat 0), .int .i64 (.ofNat 0), .int .i64 (.ofNat 0)]
  | .bad line col => .tup [.sc (.slice none 0 0), .int .i64 (.ofNat line), .int .i64 (.ofNat col), .int .i64 (.ofNat 2)]

theorem tok_flat {t : Tok} : ∀ q ∈ t.row, q.flat = true ∧ q.one = true := fun q hq => by simp [Tok.row] at hq; rcases hq with rfl | rfl | rfl | rfl | rfl <;> exact ⟨rfl, rfl⟩
theorem toks_flat {l : List Tok} : ∀ row ∈ l.map Tok.row, ∀ q ∈ row, q.flat = true ∧ q.one = true := fun row hr q hq => by obtain ⟨t, _, rfl⟩ := List.mem_map.mp hr; exact tok_flat q hq

set_option maxHeartbeats 4000000 in
theorem tokens_says (len n : Nat) (hl : len ≤ 16384) : Says ρ Tryd.prog 13 [.ps len n] (toksOut (toksF (len + 1) len n 1 1)) := by
  refine .wf (i := 0) rfl fun hn => ?_
  refine says_run (call := over 21 ovBlanks (over 22 ovToken call0)) follows globL_ok (over_ok ovBlanks_ok (over_ok ovToken_ok call0_ok)) (arg1 rfl) ?_
  repeat' (first | ((conv => lhs; whnf); first | ((conv => lhs; arg 1; whnf); refine valK_ok ?_) | refine forceB_ok ?_ | refine forceN_add ?_ | refine forceN_sub ?_ | refine forceN_suc ?_ | refine forceN_part ?_ | refine forceN_byte ?_ | refine forceN_ok ?_ | refine forceZ_add ?_ | refine forceZ_mul (by (try simp only [maxK]); omega) ?_ | refine forceZ_sub ?_ | refine forceZ_ok ?_ | refine rowAt_ok (byteRows_get (by (try simp only [maxK]); omega)) ?_ | (apply rowAt_ok; (focus assumption)) | refine br_true (Nat.beq_refl _) ?_ | refine br_true (by assumption) ?_ | refine br_false (by assumption) ?_ | refine br_max (by (try simp only [maxK]); omega) ?_ | refine br_ble_t (by (try simp only [maxK]); omega) ?_ | refine br_ble_f (by (try simp only [maxK]); omega) ?_ | refine br_beq_f (by (try simp only [maxK]); omega) ?_ | refine br_true (by simp only [Bool.and_eq_true, Nat.ble_eq]; (try simp only []); omega) ?_ | (refine br_ble (fun h => ?_) (fun h => ?_) <;> (try simp only [] at h)) | (refine br_beq (fun h => ?_) (fun h => ?_) <;> (try simp only [] at h)) | refine br_split (fun h => ?_) (fun h => ?_) | fail) | ((conv => lhs; whnf); first | refine acc4_upd_ok (by omega) ?_ | refine acc4_get_same (by omega) ?_ | refine acc4_get_other (by omega) (by omega) (by omega) ?_ | refine acc4_get_ok (by omega) (by assumption) ?_ | refine opt3_split (fun h => ?_) (fun kind num tl h => ?_) | refine int_split (fun a h => ?_) (fun a h => ?_) | fail))
  conv => lhs; whnf
  refine loop_ok (fun m tm hp nx => ∃ l x li co acc, l < m ∧ x < 256 ^ l ∧ get4 hp 0 = .cell [.ps l x, .int .i64 (.ofNat li), .int .i64 (.ofNat co)] ∧ (toksF m l x li co).pre acc = toksF (len + 1) len n 1 1 ∧ l ≤ 16384 ∧ li + l ≤ 16386 ∧ co + l ≤ 16386 ∧ 1 ≤ nx ∧ nx + 3 * m ≤ 50000 ∧ acc.length + m = len + 1 ∧
    (acc = [] ∧ get2 tm 2 = .sc (.slice none 0 0) ∨ ∃ j, 0 < j ∧ j < nx ∧ get4 hp j = .ls 5 (acc.map Tok.row) ∧ get2 tm 2 = .sl j 0 (acc.map Tok.row).length false) ∧ get2 tm 6 = .ptr 0 0 0 ∧ get2 tm 255 = .un) (m := len + 1) (by omega)
    ⟨len, n, 1, 1, [], by omega, hn, get4_same (by omega), LexR.pre_nil _, hl, by omega, by omega, by omega, by omega, by simp, .inl ⟨rfl, rfl⟩, rfl, rfl⟩ ?_
  rintro m tm hp nx ⟨l, x, li, co, acc, hlm, hx, hrow, hres, hl1, hli, hco, hnx, hnx2, hal, hacc, e6, e255⟩ k hk
  have hB := blanksF_facts (f := l) (line := li) (col := co) hx
  have hT := fun kind num tl h => @tokM_facts (blanksF l l x li co).1 (blanksF l l x li co).2.1 kind num tl h
  have hal2 : (acc.map Tok.row).length = acc.length := by simp
  (obtain ⟨y0, y1, y2, y3, y4, y5, y6, y7, y8, y9, y10, y11, y12, y13, y14, y15⟩ := tm; obtain ⟨x0, x1, x2, x3, x4, x5, x6, x7, x8, x9, x10, x11, x12, x13, x14, x15⟩ := y0; obtain ⟨x16, x17, x18, x19, x20, x21, x22, x23, x24, x25, x26, x27, x28, x29, x30, x31⟩ := y1; obtain ⟨x32, x33, x34, x35, x36, x37, x38, x39, x40, x41, x42, x43, x44, x45, x46, x47⟩ := y2; obtain ⟨x240, x241, x242, x243, x244, x245, x246, x247, x248, x249, x250, x251, x252, x253, x254, x255⟩ := y15)
  cases e6
  cases e255
  obtain ⟨f, rfl⟩ : ∃ f, m = f + 1 := ⟨m - 1, by omega⟩
  rcases hacc with ⟨ea, e2⟩ | ⟨j, hj0, hj, hob, e2⟩
  · subst ea
    cases e2
    repeat' (first | ((conv => lhs; whnf); first | ((conv => lhs; arg 1; whnf); refine valK_ok ?_) | refine forceB_ok ?_ | refine forceN_add ?_ | refine forceN_sub ?_ | refine forceN_suc ?_ | refine forceN_part ?_ | refine forceN_byte ?_ | refine forceN_ok ?_ | refine forceZ_add ?_ | refine forceZ_mul (by (try simp only [maxK]); omega) ?_ | refine forceZ_sub ?_ | refine forceZ_ok ?_ | refine rowAt_ok (byteRows_get (by (try simp only [maxK]); omega)) ?_ | (apply rowAt_ok; (focus assumption)) | refine br_true (Nat.beq_refl _) ?_ | refine br_true (by assumption) ?_ | refine br_false (by assumption) ?_ | refine br_max (by (try simp only [maxK]); omega) ?_ | refine br_ble_t (by (try simp only [maxK]); omega) ?_ | refine br_ble_f (by (try simp only [maxK]); omega) ?_ | refine br_beq_f (by (try simp only [maxK]); omega) ?_ | refine br_true (by simp only [Bool.and_eq_true, Nat.ble_eq]; (try simp only []); omega) ?_ | (refine br_ble (fun h => ?_) (fun h => ?_) <;> (try simp only [] at h)) | (refine br_beq (fun h => ?_) (fun h => ?_) <;> (try simp only [] at h)) | refine br_split (fun h => ?_) (fun h => ?_) | fail) | ((conv => lhs; whnf); first | refine acc4_upd_ok (by omega) ?_ | refine acc4_get_same (by omega) ?_ | refine acc4_get_other (by omega) (by omega) (by omega) ?_ | refine acc4_get_ok (by omega) (by assumption) ?_ | refine opt3_split (fun h => ?_) (fun kind num tl h => ?_) | refine int_split (fun a h => ?_) (fun a h => ?_) | fail))
    all_goals (try (conv => lhs; whnf))
    · rw [LexR.pre_nil, toks_bad ‹_›] at hres
      rw [← hres]
      exact okIf_ok (frz_cons (.flat _ rfl) (frz_cons (frz_int rfl) (frz_cons (frz_int rfl) (frz_cons (frz_int rfl) frz_nil))))
    · rename_i ht
      subst h
      obtain ⟨_, ⟨_, _, hnum, htl⟩ | ⟨h4, _⟩⟩ := hT _ _ _ ht
      · subst hnum htl
        rw [toks_end ht, LexR.pre] at hres
        rw [← hres]
        refine okIf_ok (frz_cons (frz_ls (by omega) rfl ?_ rfl toks_flat) (frz_cons (frz_int rfl) (frz_cons (frz_int rfl) (frz_cons (frz_int rfl) frz_nil))))
        rw [Nat.pow_zero, Nat.mod_one]
        rfl
      · exact absurd rfl h4
    · rename_i ht
      obtain ⟨h5, ⟨h4, _⟩ | ⟨h4, h6⟩⟩ := hT _ _ _ ht
      · exact absurd h4 h
      · rw [toks_more ht h4, LexR.pre_pre] at hres
        refine hk f _ _ _ (by omega) ⟨_, _, _, _, _, ?_, part_lt hB.2.1 h5, ?_, hres, ?_, ?_, ?_, ?_, ?_, ?_, .inr ⟨nx + 1 + 1, ?_, ?_, ?_, ?_⟩, rfl, rfl⟩
        · omega
        · exact get4_other (by omega) (by omega) (by omega) (get4_other (by omega) (by omega) (by omega) (get4_other (by omega) (by omega) (by omega) (get4_other (by omega) (by omega) (by omega) (get4_same (by omega)))))
        · omega
        · omega
        · omega
        · omega
        · omega
        · simp at hal ⊢; omega
        · omega
        · omega
        · exact get4_same (by omega)
        · rfl
  · cases e2
    repeat' (first | ((conv => lhs; whnf); first | ((conv => lhs; arg 1; whnf); refine valK_ok ?_) | refine forceB_ok ?_ | refine forceN_add ?_ | refine forceN_sub ?_ | refine forceN_suc ?_ | refine forceN_part ?_ | refine forceN_byte ?_ | refine forceN_ok ?_ | refine forceZ_add ?_ | refine forceZ_mul (by (try simp only [maxK]); omega) ?_ | refine forceZ_sub ?_ | refine forceZ_ok ?_ | refine rowAt_ok (byteRows_get (by (try simp only [maxK]); omega)) ?_ | (apply rowAt_ok; (focus assumption)) | refine br_true (Nat.beq_refl _) ?_ | refine br_true (by assumption) ?_ | refine br_false (by assumption) ?_ | refine br_max (by (try simp only [maxK]); omega) ?_ | refine br_ble_t (by (try simp only [maxK]); omega) ?_ | refine br_ble_f (by (try simp only [maxK]); omega) ?_ | refine br_beq_f (by (try simp only [maxK]); omega) ?_ | refine br_true (by simp only [Bool.and_eq_true, Nat.ble_eq]; (try simp only []); omega) ?_ | (refine br_ble (fun h => ?_) (fun h => ?_) <;> (try simp only [] at h)) | (refine br_beq (fun h => ?_) (fun h => ?_) <;> (try simp only [] at h)) | refine br_split (fun h => ?_) (fun h => ?_) | fail) | ((conv => lhs; whnf); first | refine acc4_upd_ok (by omega) ?_ | refine acc4_get_same (by omega) ?_ | refine acc4_get_other (by omega) (by omega) (by omega) ?_ | refine acc4_get_ok (by omega) (by assumption) ?_ | refine opt3_split (fun h => ?_) (fun kind num tl h => ?_) | refine int_split (fun a h => ?_) (fun a h => ?_) | fail))
    all_goals (try (conv => lhs; whnf))
    · rw [toks_bad ‹_›, LexR.pre] at hres
      rw [← hres]
      exact okIf_ok (frz_cons (.flat _ rfl) (frz_cons (frz_int rfl) (frz_cons (frz_int rfl) (frz_cons (frz_int rfl) frz_nil))))
    · rename_i ht _
      subst h
      obtain ⟨_, ⟨_, _, hnum, htl⟩ | ⟨h4, _⟩⟩ := hT _ _ _ ht
      · subst hnum htl
        rw [toks_end ht, LexR.pre] at hres
        rw [← hres]
        refine okIf_ok (frz_cons (frz_ls (by omega) rfl ?_ ?_ toks_flat) (frz_cons (frz_int rfl) (frz_cons (frz_int rfl) (frz_cons (frz_int rfl) frz_nil))))
        · rw [Nat.pow_zero, Nat.mod_one]
          rw [List.take_length, List.map_append]
          rfl
        · simp
      · exact absurd rfl h4
    · rename_i ht _
      obtain ⟨h5, ⟨h4, _⟩ | ⟨h4, h6⟩⟩ := hT _ _ _ ht
      · exact absurd h4 h
      · rw [toks_more ht h4, LexR.pre_pre] at hres
        refine hk f _ _ _ (by omega) ⟨_, _, _, _, _, ?_, part_lt hB.2.1 h5, ?_, hres, ?_, ?_, ?_, ?_, ?_, ?_, .inr ⟨nx + 1 + 1, ?_, ?_, ?_, ?_⟩, rfl, rfl⟩
        · omega
        · exact get4_other (by omega) (by omega) (by omega) (get4_other (by omega) (by omega) (by omega) (get4_other (by omega) (by omega) (by omega) (get4_other (by omega) (by omega) (by omega) (get4_other (by omega) (by omega) (by omega) (get4_same (by omega))))))
        · omega
        · omega
        · omega
        · omega
        · omega
        · simp at hal ⊢; omega
        · omega
        · omega
        · rw [List.map_append]
          refine (get4_same (by omega)).trans ?_
          rw [List.take_length]
          rfl
        · rw [List.map_append, List.length_append]
          rfl
    · have h7 : 140737488355328 < ((acc.map Tok.row).length + 1) * 48 := h
      omega

end Go.Proofs.YtibmbbogjkecoaaDoor.M

/- The tokens as answers. -/
namespace Go.Proofs.YtibmbbogjkecoaaDoor.M
open Go
set_option linter.unusedSimpArgs false
set_option linter.unusedVariables false
variable {ρ : Nat → Value}

/-- Both lexers. -/
noncomputable def ovToks : OvT := fun args _ hp nx kr _ => match args with
  | [.ps len n] => must (Nat.ble len 16384) (lexX (toksF (len + 1) len n 1 1)
      (fun l => kr (.tup [.ro 5 (l.map Tok.row), .int .i64 (.ofNat 0), .int .i64 (.ofNat 0), .int .i64 (.ofNat 0)]) hp nx)
      (fun line col => kr (.tup [.sc (.slice none 0 0), .int .i64 (.ofNat line), .int .i64 (.ofNat col), .int .i64 (.ofNat 2)]) hp nx))
  | _ => .err 1
theorem ovToks_ok {f : FuncId} (hs : ∀ len n, len ≤ 16384 → Says ρ Tryd.prog f [.ps len n] (toksOut (toksF (len + 1) len n 1 1))) : OvOK ρ Tryd.prog f ovToks := by
  intro args forb hp nx kr kp h0
  unfold ovToks at h0
  split at h0
  · rename_i len n
    obtain ⟨c1, h1⟩ := must_inv h0
    refine (hs len n (Nat.le_of_ble_eq_true c1) (absO hp) nx (inL forb)).mono ?_
    rintro o O m ⟨e1, e2, e3⟩
    subst e1 e2 e3
    rcases lexX_inv h1 with ⟨l, e, h⟩ | ⟨a, b, e, h⟩ <;> rw [e] <;> exact ⟨hp, rfl, h⟩
  · exact Ans.no h0

end Go.Proofs.YtibmbbogjkecoaaDoor.M

/- The key words, and words among others. -/
namespace Go.Proofs.YtibmbbogjkecoaaDoor.M
open Go
set_option linter.unusedSimpArgs false
set_option linter.unusedVariables false

/-- The key words. -/
def ktab : List (Nat × Nat) := [(3, 6779757), (3, 6514034), (3, 6710628), (5, 491496170337), (2, 28271), (3, 7628140), (3, 7824750), (5, 500135195763), (3, 7628135), (3, 7628147), (4, 1885435763), (7, 32199706694346098), (4, 1702259047), (4, 1886351212), (5, 474449277043), (4, 1819042147), (5, 474214393697), (5, 431415719271), (4, 1701147238), (2, 29537), (2, 26217), (4, 1702063205), (4, 1701736292), (4, 1702260589), (3, 7630441), (3, 7500385), (3, 7304041), (3, 7102838), (3, 6710642), (3, 6775156)]
def isW (l n : Nat) (p : Nat × Nat) : Bool := Nat.beq l p.1 && Nat.beq n p.2
def keyM (l n : Nat) : Bool := ktab.any (isW l n)
theorem tab_at {tab : List (Nat × Nat)} {i : Nat} (hl : i < tab.length) : (tab.map fun p => [V.ps p.1 p.2])[i]? = some [.ps (tab.getD i (0, 0)).1 (tab.getD i (0, 0)).2] := by
  rw [List.getElem?_map, List.getElem?_eq_getElem hl, List.getD_eq_getElem?_getD, List.getElem?_eq_getElem hl]
  rfl
theorem any_step {tab : List (Nat × Nat)} {f : Nat × Nat → Bool} {i : Nat} (hl : i < tab.length) : (tab.drop i).any f = (f (tab.getD i (0, 0)) || (tab.drop (i + 1)).any f) := by
  rw [List.drop_eq_getElem_cons hl, List.any_cons, List.getD_eq_getElem?_getD, List.getElem?_eq_getElem hl]
  rfl


end Go.Proofs.YtibmbbogjkecoaaDoor.M

/- For LexNames: is a word among others (slices.Contains). -/
namespace Go.Proofs.YtibmbbogjkecoaaDoor.M
open Go
set_option linter.unusedSimpArgs false
set_option linter.unusedVariables false
variable {ρ : Nat → Value}

/-- Where a word stands. -/
def idxW (l n : Nat) : List (Nat × Nat) → Nat → Int
  | [], _ => .negSucc 0
  | p :: t, i => match isW l n p with
    | true => .ofNat i
    | false => idxW l n t (i + 1)
theorem idx_step {tab : List (Nat × Nat)} {l n i : Nat} (hl : i < tab.length) : idxW l n (tab.drop i) i = (match isW l n (tab.getD i (0, 0)) with | true => Int.ofNat i | false => idxW l n (tab.drop (i + 1)) (i + 1)) := by
  rw [List.drop_eq_getElem_cons hl, List.getD_eq_getElem?_getD, List.getElem?_eq_getElem hl]
  rfl
theorem idx_any : ∀ (t : List (Nat × Nat)) (l n i : Nat), t.any (isW l n) = true ∧ (∃ k, idxW l n t i = .ofNat k) ∨ t.any (isW l n) = false ∧ idxW l n t i = .negSucc 0
  | [], l, n, i => .inr ⟨rfl, rfl⟩
  | p :: t, l, n, i => by
    rw [List.any_cons]
    cases h : isW l n p with
    | true => exact .inl ⟨rfl, i, by simp [idxW, h]⟩
    | false =>
      have := idx_any t l n (i + 1)
      simpa [idxW, h] using this

attribute [local irreducible] forceN forceZ forceB okIf roundsK valK rowAt
set_option maxRecDepth 100000

set_option maxHeartbeats 4000000 in
theorem index_says (tab : List (Nat × Nat)) (len n : Nat) (hl : len ≤ 140737488355328) (ht : tab.length ≤ 140737488355328) : Says ρ Tryd.prog 16 [.ro 1 (tab.map fun p => [.ps p.1 p.2]), .ps len n] (.int .i64 (idxW len n tab 0)) := by
  have hkm : (tab.map fun p => [V.ps p.1 p.2]).length = tab.length := by simp
  refine says_run (call := call0) follows globL_ok call0_ok (arg2 rfl rfl) ?_
  repeat' (first | ((conv => lhs; whnf); first | ((conv => lhs; arg 1; whnf); refine valK_ok ?_) | refine forceB_ok ?_ | refine forceN_add ?_ | refine forceN_sub ?_ | refine forceN_suc ?_ | refine forceN_part ?_ | refine forceN_byte ?_ | refine forceN_ok ?_ | refine forceZ_add ?_ | refine forceZ_mul (by (try simp only [maxK]); omega) ?_ | refine forceZ_sub ?_ | refine forceZ_ok ?_ | refine rowAt_ok (byteRows_get (by (try simp only [maxK]); omega)) ?_ | (apply rowAt_ok; (focus assumption)) | refine br_true (Nat.beq_refl _) ?_ | refine br_true (by assumption) ?_ | refine br_false (by assumption) ?_ | refine br_max (by (try simp only [maxK]); omega) ?_ | refine br_ble_t (by (try simp only [maxK]); omega) ?_ | refine br_ble_f (by (try simp only [maxK]); omega) ?_ | refine br_beq_f (by (try simp only [maxK]); omega) ?_ | refine br_true (by simp only [Bool.and_eq_true, Nat.ble_eq]; (try simp only []); omega) ?_ | (refine br_ble (fun h => ?_) (fun h => ?_) <;> (try simp only [] at h)) | (refine br_beq (fun h => ?_) (fun h => ?_) <;> (try simp only [] at h)) | refine br_split (fun h => ?_) (fun h => ?_) | fail) | ((conv => lhs; whnf); first | refine acc4_upd_ok (by omega) ?_ | refine acc4_get_same (by omega) ?_ | refine acc4_get_other (by omega) (by omega) (by omega) ?_ | refine acc4_get_ok (by omega) (by assumption) ?_ | refine opt3_split (fun h => ?_) (fun kind num tl h => ?_) | refine int_split (fun a h => ?_) (fun a h => ?_) | fail))
  conv => lhs; whnf
  refine loop_ok (fun m tm hp nx => ∃ i, m = tab.length - i ∧ i ≤ tab.length ∧ idxW len n tab 0 = idxW len n (tab.drop i) i ∧ get2 tm 0 = .ro 1 (tab.map fun p => [.ps p.1 p.2]) ∧ get2 tm 1 = .ps len n ∧ get2 tm 7 = .int .i64 (.ofNat (tab.map fun p => [V.ps p.1 p.2]).length) ∧ get2 tm 8 = .int .i64 (.ofNat i) ∧ get2 tm 255 = .un) (m := tab.length) (by omega)
    ⟨0, rfl, by omega, rfl, rfl, rfl, rfl, rfl, rfl⟩ ?_
  rintro m tm hp nx ⟨i, rfl, hi, hr, e0, e1, e7, e8, e255⟩ k hk
  (obtain ⟨y0, y1, y2, y3, y4, y5, y6, y7, y8, y9, y10, y11, y12, y13, y14, y15⟩ := tm; obtain ⟨x0, x1, x2, x3, x4, x5, x6, x7, x8, x9, x10, x11, x12, x13, x14, x15⟩ := y0; obtain ⟨x16, x17, x18, x19, x20, x21, x22, x23, x24, x25, x26, x27, x28, x29, x30, x31⟩ := y1; obtain ⟨x240, x241, x242, x243, x244, x245, x246, x247, x248, x249, x250, x251, x252, x253, x254, x255⟩ := y15)
  cases e0
  cases e1
  cases e7
  cases e8
  cases e255
  rcases Nat.lt_or_ge i tab.length with hlt | hge
  · have hrow := tab_at hlt
    have hst := idx_step (l := len) (n := n) hlt
    generalize hw : tab.getD i (0, 0) = w at *
    obtain ⟨w1, w2⟩ := w
    repeat' (first | ((conv => lhs; whnf); first | ((conv => lhs; arg 1; whnf); refine valK_ok ?_) | refine forceB_ok ?_ | refine forceN_add ?_ | refine forceN_sub ?_ | refine forceN_suc ?_ | refine forceN_part ?_ | refine forceN_byte ?_ | refine forceN_ok ?_ | refine forceZ_add ?_ | refine forceZ_mul (by (try simp only [maxK]); omega) ?_ | refine forceZ_sub ?_ | refine forceZ_ok ?_ | refine rowAt_ok (byteRows_get (by (try simp only [maxK]); omega)) ?_ | (apply rowAt_ok; (focus assumption)) | refine br_true (Nat.beq_refl _) ?_ | refine br_true (by assumption) ?_ | refine br_false (by assumption) ?_ | refine br_max (by (try simp only [maxK]); omega) ?_ | refine br_ble_t (by (try simp only [maxK]); omega) ?_ | refine br_ble_f (by (try simp only [maxK]); omega) ?_ | refine br_beq_f (by (try simp only [maxK]); omega) ?_ | refine br_true (by simp only [Bool.and_eq_true, Nat.ble_eq]; (try simp only []); omega) ?_ | (refine br_ble (fun h => ?_) (fun h => ?_) <;> (try simp only [] at h)) | (refine br_beq (fun h => ?_) (fun h => ?_) <;> (try simp only [] at h)) | refine br_split (fun h => ?_) (fun h => ?_) | fail) | ((conv => lhs; whnf); first | refine acc4_upd_ok (by omega) ?_ | refine acc4_get_same (by omega) ?_ | refine acc4_get_other (by omega) (by omega) (by omega) ?_ | refine acc4_get_ok (by omega) (by assumption) ?_ | refine opt3_split (fun h => ?_) (fun kind num tl h => ?_) | refine int_split (fun a h => ?_) (fun a h => ?_) | fail))
    all_goals (try (conv => lhs; whnf))
    all_goals first
    | (refine hk _ _ _ _ (by omega) ⟨i + 1, rfl, by omega, ?_, rfl, rfl, rfl, rfl, rfl⟩
       have hf : isW len n (w1, w2) = false := by
         show (Nat.beq len w1 && Nat.beq n w2) = false
         first
         | (rw [beq_false_iff.mpr ‹len ≠ w1›]; rfl)
         | (rw [beq_false_iff.mpr ‹n ≠ w2›, Bool.and_false])
       rw [hr, hst, hf])
    | (refine okIf_ok (frz_int ?_)
       have ht : isW len n (w1, w2) = true := by
         show (Nat.beq len w1 && Nat.beq n w2) = true
         rw [‹len = w1›, ‹n = w2›, Nat.beq_refl, Nat.beq_refl]
         rfl
       rw [hr, hst, ht])
  · repeat' (first | ((conv => lhs; whnf); first | ((conv => lhs; arg 1; whnf); refine valK_ok ?_) | refine forceB_ok ?_ | refine forceN_add ?_ | refine forceN_sub ?_ | refine forceN_suc ?_ | refine forceN_part ?_ | refine forceN_byte ?_ | refine forceN_ok ?_ | refine forceZ_add ?_ | refine forceZ_mul (by (try simp only [maxK]); omega) ?_ | refine forceZ_sub ?_ | refine forceZ_ok ?_ | refine rowAt_ok (byteRows_get (by (try simp only [maxK]); omega)) ?_ | (apply rowAt_ok; (focus assumption)) | refine br_true (Nat.beq_refl _) ?_ | refine br_true (by assumption) ?_ | refine br_false (by assumption) ?_ | refine br_max (by (try simp only [maxK]); omega) ?_ | refine br_ble_t (by (try simp only [maxK]); omega) ?_ | refine br_ble_f (by (try simp only [maxK]); omega) ?_ | refine br_beq_f (by (try simp only [maxK]); omega) ?_ | refine br_true (by simp only [Bool.and_eq_true, Nat.ble_eq]; (try simp only []); omega) ?_ | (refine br_ble (fun h => ?_) (fun h => ?_) <;> (try simp only [] at h)) | (refine br_beq (fun h => ?_) (fun h => ?_) <;> (try simp only [] at h)) | refine br_split (fun h => ?_) (fun h => ?_) | fail) | ((conv => lhs; whnf); first | refine acc4_upd_ok (by omega) ?_ | refine acc4_get_same (by omega) ?_ | refine acc4_get_other (by omega) (by omega) (by omega) ?_ | refine acc4_get_ok (by omega) (by assumption) ?_ | refine opt3_split (fun h => ?_) (fun kind num tl h => ?_) | refine int_split (fun a h => ?_) (fun a h => ?_) | fail))
    all_goals (try (conv => lhs; whnf))
    refine okIf_ok (frz_int ?_)
    rw [hr, List.drop_eq_nil_of_le hge]
    rfl

/-- Index, for one list of words. -/
noncomputable def ovIndex (tab : List (Nat × Nat)) : OvT := fun args _ hp nx kr _ => match args with
  | [.ro 1 rows, .ps len n] => askP (rows = tab.map (fun p => [V.ps p.1 p.2]) ∧ len ≤ 140737488355328) (kr (.int .i64 (idxW len n tab 0)) hp nx)
  | _ => .err 1
theorem ovIndex_ok {tab : List (Nat × Nat)} (ht : tab.length ≤ 140737488355328) : OvOK ρ Tryd.prog 16 (ovIndex tab) := by
  intro args forb hp nx kr kp h0
  unfold ovIndex at h0
  split at h0
  · rename_i rows len n
    obtain ⟨⟨rfl, h2⟩, h3⟩ := askP_inv h0
    refine (index_says tab len n h2 ht (absO hp) nx (inL forb)).mono ?_
    rintro o O m ⟨e1, e2, e3⟩
    subst e1 e2 e3
    exact ⟨hp, rfl, h3⟩
  · exact Ans.no h0

attribute [local irreducible] askP idxW in
set_option maxHeartbeats 4000000 in
theorem contains_says (tab : List (Nat × Nat)) (len n : Nat) (hl : len ≤ 140737488355328) (ht : tab.length ≤ 140737488355328) : Says ρ Tryd.prog 65 [.ro 1 (tab.map fun p => [.ps p.1 p.2]), .ps len n] (.bool (tab.any (isW len n))) := by
  have hi := idx_any tab len n 0
  refine says_run (call := over 16 (ovIndex tab) call0) follows globL_ok (over_ok (ovIndex_ok ht) call0_ok) (arg2 rfl rfl) ?_
  rcases hi with ⟨h1, j, h2⟩ | ⟨h1, h2⟩
  · rw [h1]
    repeat' (first | ((conv => lhs; whnf); first | ((conv => lhs; arg 1; whnf); refine valK_ok ?_) | refine forceB_ok ?_ | refine forceN_add ?_ | refine forceN_sub ?_ | refine forceN_suc ?_ | refine forceN_part ?_ | refine forceN_byte ?_ | refine forceN_ok ?_ | refine forceZ_add ?_ | refine forceZ_mul (by (try simp only [maxK]); omega) ?_ | refine forceZ_sub ?_ | refine forceZ_ok ?_ | refine rowAt_ok (byteRows_get (by (try simp only [maxK]); omega)) ?_ | (apply rowAt_ok; (focus assumption)) | refine br_true (Nat.beq_refl _) ?_ | refine br_true (by assumption) ?_ | refine br_false (by assumption) ?_ | refine br_max (by (try simp only [maxK]); omega) ?_ | refine br_ble_t (by (try simp only [maxK]); omega) ?_ | refine br_ble_f (by (try simp only [maxK]); omega) ?_ | refine br_beq_f (by (try simp only [maxK]); omega) ?_ | refine br_true (by simp only [Bool.and_eq_true, Nat.ble_eq]; (try simp only []); omega) ?_ | (refine br_ble (fun h => ?_) (fun h => ?_) <;> (try simp only [] at h)) | (refine br_beq (fun h => ?_) (fun h => ?_) <;> (try simp only [] at h)) | refine br_split (fun h => ?_) (fun h => ?_) | fail) | ((conv => lhs; whnf); first | refine acc4_upd_ok (by omega) ?_ | refine acc4_get_same (by omega) ?_ | refine acc4_get_other (by omega) (by omega) (by omega) ?_ | refine acc4_get_ok (by omega) (by assumption) ?_ | refine opt3_split (fun h => ?_) (fun kind num tl h => ?_) | refine int_split (fun a h => ?_) (fun a h => ?_) | fail))
    conv => lhs; whnf
    refine askP_ok ⟨rfl, hl⟩ ?_
    rw [h2]
    repeat' (first | ((conv => lhs; whnf); first | ((conv => lhs; arg 1; whnf); refine valK_ok ?_) | refine forceB_ok ?_ | refine forceN_add ?_ | refine forceN_sub ?_ | refine forceN_suc ?_ | refine forceN_part ?_ | refine forceN_byte ?_ | refine forceN_ok ?_ | refine forceZ_add ?_ | refine forceZ_mul (by (try simp only [maxK]); omega) ?_ | refine forceZ_sub ?_ | refine forceZ_ok ?_ | refine rowAt_ok (byteRows_get (by (try simp only [maxK]); omega)) ?_ | (apply rowAt_ok; (focus assumption)) | refine br_true (Nat.beq_refl _) ?_ | refine br_true (by assumption) ?_ | refine br_false (by assumption) ?_ | refine br_max (by (try simp only [maxK]); omega) ?_ | refine br_ble_t (by (try simp only [maxK]); omega) ?_ | refine br_ble_f (by (try simp only [maxK]); omega) ?_ | refine br_beq_f (by (try simp only [maxK]); omega) ?_ | refine br_true (by simp only [Bool.and_eq_true, Nat.ble_eq]; (try simp only []); omega) ?_ | (refine br_ble (fun h => ?_) (fun h => ?_) <;> (try simp only [] at h)) | (refine br_beq (fun h => ?_) (fun h => ?_) <;> (try simp only [] at h)) | refine br_split (fun h => ?_) (fun h => ?_) | fail) | ((conv => lhs; whnf); first | refine acc4_upd_ok (by omega) ?_ | refine acc4_get_same (by omega) ?_ | refine acc4_get_other (by omega) (by omega) (by omega) ?_ | refine acc4_get_ok (by omega) (by assumption) ?_ | refine opt3_split (fun h => ?_) (fun kind num tl h => ?_) | refine int_split (fun a h => ?_) (fun a h => ?_) | fail))
    all_goals (try (conv => lhs; whnf))
    exact okIf_ok (frz_bool rfl)
  · rw [h1]
    repeat' (first | ((conv => lhs; whnf); first | ((conv => lhs; arg 1; whnf); refine valK_ok ?_) | refine forceB_ok ?_ | refine forceN_add ?_ | refine forceN_sub ?_ | refine forceN_suc ?_ | refine forceN_part ?_ | refine forceN_byte ?_ | refine forceN_ok ?_ | refine forceZ_add ?_ | refine forceZ_mul (by (try simp only [maxK]); omega) ?_ | refine forceZ_sub ?_ | refine forceZ_ok ?_ | refine rowAt_ok (byteRows_get (by (try simp only [maxK]); omega)) ?_ | (apply rowAt_ok; (focus assumption)) | refine br_true (Nat.beq_refl _) ?_ | refine br_true (by assumption) ?_ | refine br_false (by assumption) ?_ | refine br_max (by (try simp only [maxK]); omega) ?_ | refine br_ble_t (by (try simp only [maxK]); omega) ?_ | refine br_ble_f (by (try simp only [maxK]); omega) ?_ | refine br_beq_f (by (try simp only [maxK]); omega) ?_ | refine br_true (by simp only [Bool.and_eq_true, Nat.ble_eq]; (try simp only []); omega) ?_ | (refine br_ble (fun h => ?_) (fun h => ?_) <;> (try simp only [] at h)) | (refine br_beq (fun h => ?_) (fun h => ?_) <;> (try simp only [] at h)) | refine br_split (fun h => ?_) (fun h => ?_) | fail) | ((conv => lhs; whnf); first | refine acc4_upd_ok (by omega) ?_ | refine acc4_get_same (by omega) ?_ | refine acc4_get_other (by omega) (by omega) (by omega) ?_ | refine acc4_get_ok (by omega) (by assumption) ?_ | refine opt3_split (fun h => ?_) (fun kind num tl h => ?_) | refine int_split (fun a h => ?_) (fun a h => ?_) | fail))
    conv => lhs; whnf
    refine askP_ok ⟨rfl, hl⟩ ?_
    rw [h2]
    repeat' (first | ((conv => lhs; whnf); first | ((conv => lhs; arg 1; whnf); refine valK_ok ?_) | refine forceB_ok ?_ | refine forceN_add ?_ | refine forceN_sub ?_ | refine forceN_suc ?_ | refine forceN_part ?_ | refine forceN_byte ?_ | refine forceN_ok ?_ | refine forceZ_add ?_ | refine forceZ_mul (by (try simp only [maxK]); omega) ?_ | refine forceZ_sub ?_ | refine forceZ_ok ?_ | refine rowAt_ok (byteRows_get (by (try simp only [maxK]); omega)) ?_ | (apply rowAt_ok; (focus assumption)) | refine br_true (Nat.beq_refl _) ?_ | refine br_true (by assumption) ?_ | refine br_false (by assumption) ?_ | refine br_max (by (try simp only [maxK]); omega) ?_ | refine br_ble_t (by (try simp only [maxK]); omega) ?_ | refine br_ble_f (by (try simp only [maxK]); omega) ?_ | refine br_beq_f (by (try simp only [maxK]); omega) ?_ | refine br_true (by simp only [Bool.and_eq_true, Nat.ble_eq]; (try simp only []); omega) ?_ | (refine br_ble (fun h => ?_) (fun h => ?_) <;> (try simp only [] at h)) | (refine br_beq (fun h => ?_) (fun h => ?_) <;> (try simp only [] at h)) | refine br_split (fun h => ?_) (fun h => ?_) | fail) | ((conv => lhs; whnf); first | refine acc4_upd_ok (by omega) ?_ | refine acc4_get_same (by omega) ?_ | refine acc4_get_other (by omega) (by omega) (by omega) ?_ | refine acc4_get_ok (by omega) (by assumption) ?_ | refine opt3_split (fun h => ?_) (fun kind num tl h => ?_) | refine int_split (fun a h => ?_) (fun a h => ?_) | fail))
    all_goals (try (conv => lhs; whnf))
    exact okIf_ok (frz_bool rfl)

end Go.Proofs.YtibmbbogjkecoaaDoor.M

/- columbary/lex: key words and names, once strings.Fields is told. -/
namespace Go.Proofs.YtibmbbogjkecoaaDoor.M
open Go
set_option linter.unusedSimpArgs false
set_option linter.unusedVariables false
variable {ρ : Nat → Value}

def keysN : Nat := 87763639457604419360672521790547939781584025823648649163781033715831281697000981908506759742293375392595119302019499681933711561941857393343782155848846502153202115655288514420360027375740662439317617673291519912426664250442951207510617883689969162399520891946893920055213434953597667928921718948193029313902706773704014243895407469
/-- What Fields answers of the key words' text. -/
def FieldsTold (ρ : Nat → Value) : Prop := Says ρ Tryd.prog 66 [.ps 138 keysN] (.ro 1 (ktab.map fun p => [.ps p.1 p.2]))

noncomputable def ovFields : OvT := fun args _ hp nx kr _ => match args with
  | [.ps l x] => must (Nat.beq l 138) (must (Nat.beq x keysN) (kr (.ro 1 (ktab.map fun p => [.ps p.1 p.2])) hp nx))
  | _ => .err 1
theorem ovFields_ok (hF : FieldsTold ρ) : OvOK ρ Tryd.prog 66 ovFields := by
  intro args forb hp nx kr kp h0
  unfold ovFields at h0
  split at h0
  · rename_i l x
    obtain ⟨h1, g1⟩ := must_inv h0
    obtain ⟨h2, g2⟩ := must_inv g1
    replace h1 := Nat.eq_of_beq_eq_true h1
    replace h2 := Nat.eq_of_beq_eq_true h2
    subst h1 h2
    refine (hF (absO hp) nx (inL forb)).mono ?_
    rintro o O m ⟨e1, e2, e3⟩
    subst e1 e2 e3
    exact ⟨hp, rfl, g2⟩
  · exact Ans.no h0

noncomputable def ovContains (tab : List (Nat × Nat)) : OvT := fun args _ hp nx kr _ => match args with
  | [.ro 1 rows, .ps len n] => askP (rows = tab.map (fun p => [V.ps p.1 p.2]) ∧ len ≤ 140737488355328) (boolK (tab.any (isW len n)) (kr (.bool true) hp nx) (kr (.bool false) hp nx))
  | _ => .err 1
theorem ovContains_ok {tab : List (Nat × Nat)} (ht : tab.length ≤ 140737488355328) : OvOK ρ Tryd.prog 65 (ovContains tab) := by
  intro args forb hp nx kr kp h0
  unfold ovContains at h0
  split at h0
  · rename_i rows len n
    obtain ⟨⟨rfl, h2⟩, h3⟩ := askP_inv h0
    refine (contains_says tab len n h2 ht (absO hp) nx (inL forb)).mono ?_
    rintro o O m ⟨e1, e2, e3⟩
    subst e1 e2 e3
    rcases boolK_inv h3 with ⟨h4, h5⟩ | ⟨h4, h5⟩ <;> rw [h4] <;> exact ⟨hp, rfl, h5⟩
  · exact Ans.no h0

noncomputable def ovW (p : Nat → Nat → Bool) : OvT := ovF fun
  | [.ps len n] => some (Nat.ble len 140737488355328, .bool (p len n))
  | _ => none
theorem ovW_ok {p : Nat → Nat → Bool} {f : FuncId} (hs : ∀ len n, len ≤ 140737488355328 → Says ρ Tryd.prog f [.ps len n] (.bool (p len n))) : OvOK ρ Tryd.prog f (ovW p) := ov_says fun args v h => by
  split at h
  · injection h with h
    injection h with g1 g2
    subst g2
    exact hs _ _ (Nat.le_of_ble_eq_true g1)
  · cases h

theorem keys_words : (ktab.all fun p => wordM p.1 p.2) = true := by decide +kernel
/-- A key word is a word. -/
theorem key_word {l n : Nat} (h : keyM l n = true) : wordM l n = true := by
  unfold keyM at h
  obtain ⟨p, hp, hw⟩ := List.any_eq_true.mp h
  unfold isW at hw
  simp only [Bool.and_eq_true, Nat.beq_eq] at hw
  rw [hw.1, hw.2]
  exact List.all_eq_true.mp keys_words p hp

attribute [local irreducible] forceN forceZ forceB okIf roundsK valK rowAt
attribute [local irreducible] askP wordM keyM toksF
set_option maxRecDepth 100000

def lkeyM (l n : Nat) : Bool := wordM l n && keyM l n
def lnameM (l n : Nat) : Bool := wordM l n && !lkeyM l n

set_option maxHeartbeats 4000000 in
theorem lkey_says (hF : FieldsTold ρ) (len n : Nat) (hl : len ≤ 140737488355328) : Says ρ Tryd.prog 63 [.ps len n] (.bool (lkeyM len n)) := by
  have hk : ktab.any (isW len n) = keyM len n := by unfold keyM; rfl
  refine says_run (call := over 62 (ovW wordM) (over 66 ovFields (over 65 (ovContains ktab) call0))) follows globL_ok (over_ok (ovW_ok word_says) (over_ok (ovFields_ok hF) (over_ok (ovContains_ok (by decide)) call0_ok))) (arg1 rfl) ?_
  unfold lkeyM
  rw [← hk]
  repeat' (first | ((conv => lhs; whnf); first | ((conv => lhs; arg 1; whnf); refine valK_ok ?_) | refine forceB_ok ?_ | refine forceN_add ?_ | refine forceN_sub ?_ | refine forceN_suc ?_ | refine forceN_part ?_ | refine forceN_byte ?_ | refine forceN_ok ?_ | refine forceZ_add ?_ | refine forceZ_mul (by (try simp only [maxK]); omega) ?_ | refine forceZ_sub ?_ | refine forceZ_ok ?_ | refine rowAt_ok (byteRows_get (by (try simp only [maxK]); omega)) ?_ | (apply rowAt_ok; (focus assumption)) | refine br_true (Nat.beq_refl _) ?_ | refine br_true (by assumption) ?_ | refine br_false (by assumption) ?_ | refine br_max (by (try simp only [maxK]); omega) ?_ | refine br_ble_t (by (try simp only [maxK]); omega) ?_ | refine br_ble_f (by (try simp only [maxK]); omega) ?_ | refine br_beq_f (by (try simp only [maxK]); omega) ?_ | refine br_true (by simp only [Bool.and_eq_true, Nat.ble_eq]; (try simp only []); omega) ?_ | (refine br_ble (fun h => ?_) (fun h => ?_) <;> (try simp only [] at h)) | (refine br_beq (fun h => ?_) (fun h => ?_) <;> (try simp only [] at h)) | refine br_split (fun h => ?_) (fun h => ?_) | fail) | ((conv => lhs; whnf); first | refine acc4_upd_ok (by omega) ?_ | refine acc4_get_same (by omega) ?_ | refine acc4_get_other (by omega) (by omega) (by omega) ?_ | refine acc4_get_ok (by omega) (by assumption) ?_ | refine opt3_split (fun h => ?_) (fun kind num tl h => ?_) | refine int_split (fun a h => ?_) (fun a h => ?_) | fail))
  all_goals (try (conv => lhs; whnf))
  · refine askP_ok ⟨rfl, hl⟩ ?_
    repeat' (first | ((conv => lhs; whnf); first | ((conv => lhs; arg 1; whnf); refine valK_ok ?_) | refine forceB_ok ?_ | refine forceN_add ?_ | refine forceN_sub ?_ | refine forceN_suc ?_ | refine forceN_part ?_ | refine forceN_byte ?_ | refine forceN_ok ?_ | refine forceZ_add ?_ | refine forceZ_mul (by (try simp only [maxK]); omega) ?_ | refine forceZ_sub ?_ | refine forceZ_ok ?_ | refine rowAt_ok (byteRows_get (by (try simp only [maxK]); omega)) ?_ | (apply rowAt_ok; (focus assumption)) | refine br_true (Nat.beq_refl _) ?_ | refine br_true (by assumption) ?_ | refine br_false (by assumption) ?_ | refine br_max (by (try simp only [maxK]); omega) ?_ | refine br_ble_t (by (try simp only [maxK]); omega) ?_ | refine br_ble_f (by (try simp only [maxK]); omega) ?_ | refine br_beq_f (by (try simp only [maxK]); omega) ?_ | refine br_true (by simp only [Bool.and_eq_true, Nat.ble_eq]; (try simp only []); omega) ?_ | (refine br_ble (fun h => ?_) (fun h => ?_) <;> (try simp only [] at h)) | (refine br_beq (fun h => ?_) (fun h => ?_) <;> (try simp only [] at h)) | refine br_split (fun h => ?_) (fun h => ?_) | fail) | ((conv => lhs; whnf); first | refine acc4_upd_ok (by omega) ?_ | refine acc4_get_same (by omega) ?_ | refine acc4_get_other (by omega) (by omega) (by omega) ?_ | refine acc4_get_ok (by omega) (by assumption) ?_ | refine opt3_split (fun h => ?_) (fun kind num tl h => ?_) | refine int_split (fun a h => ?_) (fun a h => ?_) | fail))
    all_goals (try (conv => lhs; whnf))
    all_goals exact okIf_ok (frz_bool (by simp_all))
  · exact okIf_ok (frz_bool (by rw [h]; rfl))

set_option maxHeartbeats 4000000 in
theorem lname_says (hF : FieldsTold ρ) (len n : Nat) (hl : len ≤ 140737488355328) : Says ρ Tryd.prog 58 [.ps len n] (.bool (lnameM len n)) := by
  refine says_run (call := over 62 (ovW wordM) (over 63 (ovW lkeyM) call0)) follows globL_ok (over_ok (ovW_ok word_says) (over_ok (ovW_ok (lkey_says hF)) call0_ok)) (arg1 rfl) ?_
  unfold lnameM
  repeat' (first | ((conv => lhs; whnf); first | ((conv => lhs; arg 1; whnf); refine valK_ok ?_) | refine forceB_ok ?_ | refine forceN_add ?_ | refine forceN_sub ?_ | refine forceN_suc ?_ | refine forceN_part ?_ | refine forceN_byte ?_ | refine forceN_ok ?_ | refine forceZ_add ?_ | refine forceZ_mul (by (try simp only [maxK]); omega) ?_ | refine forceZ_sub ?_ | refine forceZ_ok ?_ | refine rowAt_ok (byteRows_get (by (try simp only [maxK]); omega)) ?_ | (apply rowAt_ok; (focus assumption)) | refine br_true (Nat.beq_refl _) ?_ | refine br_true (by assumption) ?_ | refine br_false (by assumption) ?_ | refine br_max (by (try simp only [maxK]); omega) ?_ | refine br_ble_t (by (try simp only [maxK]); omega) ?_ | refine br_ble_f (by (try simp only [maxK]); omega) ?_ | refine br_beq_f (by (try simp only [maxK]); omega) ?_ | refine br_true (by simp only [Bool.and_eq_true, Nat.ble_eq]; (try simp only []); omega) ?_ | (refine br_ble (fun h => ?_) (fun h => ?_) <;> (try simp only [] at h)) | (refine br_beq (fun h => ?_) (fun h => ?_) <;> (try simp only [] at h)) | refine br_split (fun h => ?_) (fun h => ?_) | fail) | ((conv => lhs; whnf); first | refine acc4_upd_ok (by omega) ?_ | refine acc4_get_same (by omega) ?_ | refine acc4_get_other (by omega) (by omega) (by omega) ?_ | refine acc4_get_ok (by omega) (by assumption) ?_ | refine opt3_split (fun h => ?_) (fun kind num tl h => ?_) | refine int_split (fun a h => ?_) (fun a h => ?_) | fail))
  all_goals (try (conv => lhs; whnf))
  all_goals exact okIf_ok (frz_bool (by simp_all))

end Go.Proofs.YtibmbbogjkecoaaDoor.M

/- strings.Fields of the key words: a run. -/
namespace Go.Proofs.YtibmbbogjkecoaaDoor.M
open Go
set_option linter.unusedSimpArgs false
set_option linter.unusedVariables false
variable {ρ : Nat → Value}

set_option maxRecDepth 100000 in
theorem fields_told : FieldsTold ρ :=
  says_told (call := call0) follows globL_ok call0_ok (arg1 rfl) (by kernel_rfl)

end Go.Proofs.YtibmbbogjkecoaaDoor.M

/- What is told in closed runs of patterns' texts: the tokens, names. -/
namespace Go.Proofs.YtibmbbogjkecoaaDoor.M
open Go
variable {ρ : Nat → Value}
noncomputable def ovPat (c : CallT) : CallT := over 13 ovToks (over 58 (ovW lnameM) c)
theorem ovPat_ok : ∀ c, CallOK ρ Tryd.prog c → CallOK ρ Tryd.prog (ovPat c) := fun c hc => over_ok (ovToks_ok tokens_says) (over_ok (ovW_ok (lname_says fields_told)) hc)
noncomputable def runPat : CallT := runW Tryd.prog glob ovPat 120
theorem runPat_ok : CallOK ρ Tryd.prog runPat := runW_ok follows glob_ok ovPat_ok 120
end Go.Proofs.YtibmbbogjkecoaaDoor.M

/- What pat.Parse and pat.Check answer of the texts of PatForms and PatMany: closed runs. -/
namespace Go.Proofs.YtibmbbogjkecoaaDoor.M
open Go
set_option linter.unusedSimpArgs false
set_option linter.unusedVariables false
variable {ρ : Nat → Value}

def pn (k a b n : Nat) : List V := [.int .i64 (.ofNat k), .int .i64 (.ofNat a), .int .i64 (.ofNat b), .int .i64 (.ofNat n), .ps 0 0]
def nil5 : V := .sc (.slice none 0 0)
def namesV : V := .ro 1 [[V.ps 1 97], [V.ps 1 98], [V.ps 2 12643], [V.ps 3 7888740]]
def formsTab : List (List V × V) := [([V.ps 1 97, namesV], V.tup [V.ro 5 [pn 3 1 0 0], V.int .i64 (.ofNat 0)]),
  ([V.ps 1 48, namesV], V.tup [V.ro 5 [pn 1 0 0 0], V.int .i64 (.ofNat 0)]),
  ([V.ps 1 49, namesV], V.tup [V.ro 5 [pn 2 0 0 0], V.int .i64 (.ofNat 0)]),
  ([V.ps 5 421446492257, namesV], V.tup [V.ro 5 [pn 3 1 0 0, pn 3 1 0 1, pn 4 0 1 0], V.int .i64 (.ofNat 0)]),
  ([V.ps 10 233224503305948892110945, namesV], V.tup [V.ro 5 [pn 3 1 0 0, pn 3 1 0 1, pn 5 0 1 0, pn 3 1 0 2, pn 4 2 3 0], V.int .i64 (.ofNat 0)]),
  ([V.ps 12 15284601103982927248657244456, namesV], V.tup [V.ro 5 [pn 3 1 0 0, pn 3 1 0 1, pn 4 0 1 0, pn 3 1 0 2, pn 5 2 3 0], V.int .i64 (.ofNat 0)]),
  ([V.ps 2 24874, namesV], V.tup [V.ro 5 [pn 3 1 0 0, pn 6 0 0 0], V.int .i64 (.ofNat 0)]),
  ([V.ps 8 2981981285756512298, namesV], V.tup [V.ro 5 [pn 3 1 0 0, pn 3 1 0 1, pn 5 0 1 0, pn 6 2 0 0], V.int .i64 (.ofNat 0)]),
  ([V.ps 7 27630865418838314, namesV], V.tup [V.ro 5 [pn 3 1 0 0, pn 6 0 0 0, pn 3 1 0 1, pn 6 2 0 0, pn 5 1 3 0], V.int .i64 (.ofNat 0)]),
  ([V.ps 3 3497569, namesV], V.tup [V.ro 5 [pn 3 5 0 0], V.int .i64 (.ofNat 0)]),
  ([V.ps 8 7070702130807333162, namesV], V.tup [V.ro 5 [pn 3 3 0 0, pn 6 0 0 0, pn 3 1 0 1, pn 5 1 2 0], V.int .i64 (.ofNat 0)]),
  ([V.ps 5 176787892264, namesV], V.tup [V.ro 5 [pn 3 1 0 0], V.int .i64 (.ofNat 0)]),
  ([V.ps 3 3235425, namesV], V.tup [V.ro 5 [pn 3 1 0 0], V.int .i64 (.ofNat 0)]),
  ([V.ps 10 568443637392914604240481, namesV], V.tup [V.ro 5 [pn 3 1 0 0, pn 3 1 0 1, pn 5 0 1 0, pn 3 1 0 2, pn 5 2 3 0, pn 3 1 0 3, pn 5 4 5 0], V.int .i64 (.ofNat 0)]),
  ([V.ps 0 0, namesV], V.tup [nil5, V.int .i64 (.ofNat 2)]),
  ([V.ps 1 43, namesV], V.tup [nil5, V.int .i64 (.ofNat 2)]),
  ([V.ps 3 2826337, namesV], V.tup [nil5, V.int .i64 (.ofNat 2)]),
  ([V.ps 3 6430817, namesV], V.tup [nil5, V.int .i64 (.ofNat 2)]),
  ([V.ps 3 6367786, namesV], V.tup [nil5, V.int .i64 (.ofNat 2)]),
  ([V.ps 9 763390008569314224170, namesV], V.tup [nil5, V.int .i64 (.ofNat 2)]),
  ([V.ps 5 177723811882, namesV], V.tup [nil5, V.int .i64 (.ofNat 2)]),
  ([V.ps 2 24872, namesV], V.tup [nil5, V.int .i64 (.ofNat 2)]),
  ([V.ps 2 10593, namesV], V.tup [nil5, V.int .i64 (.ofNat 2)]),
  ([V.ps 3 3169889, namesV], V.tup [nil5, V.int .i64 (.ofNat 2)]),
  ([V.ps 2 24161, namesV], V.tup [nil5, V.int .i64 (.ofNat 2)]),
  ([V.ps 3 6446689, namesV], V.tup [nil5, V.int .i64 (.ofNat 2)]),
  ([V.ps 1 50, namesV], V.tup [nil5, V.int .i64 (.ofNat 2)]),
  ([V.ps 5 421445836897, namesV], V.tup [nil5, V.int .i64 (.ofNat 2)]),
  ([V.ps 3 7630441, namesV], V.tup [nil5, V.int .i64 (.ofNat 2)]),
  ([V.ps 4 1701147238, namesV], V.tup [nil5, V.int .i64 (.ofNat 2)]),
  ([V.ps 5 216328658529, namesV], V.tup [nil5, V.int .i64 (.ofNat 2)]),
  ([V.ps 10 156431713536246941425761, namesV], V.tup [nil5, V.int .i64 (.ofNat 4)]),
  ([V.ps 25 258370430645563142342040963871054767199809816555265569859624, V.ro 1 [[V.ps 1 97]]], V.tup [V.ro 5 [pn 3 1 0 0], V.int .i64 (.ofNat 0)]),
  ([V.ps 27 16932564542787626096527996607963832696476193935782341585207306280, V.ro 1 [[V.ps 1 97]]], V.tup [nil5, V.int .i64 (.ofNat 3)])]
def checkTab : List (List V × V) := [([V.ro 5 [pn 3 1 0 0], V.int .i64 (.ofNat 4)], V.bool true),
  ([V.ro 5 [pn 1 0 0 0], V.int .i64 (.ofNat 4)], V.bool true),
  ([V.ro 5 [pn 2 0 0 0], V.int .i64 (.ofNat 4)], V.bool true),
  ([V.ro 5 [pn 3 1 0 0, pn 3 1 0 1, pn 4 0 1 0], V.int .i64 (.ofNat 4)], V.bool true),
  ([V.ro 5 [pn 3 1 0 0, pn 3 1 0 1, pn 5 0 1 0, pn 3 1 0 2, pn 4 2 3 0], V.int .i64 (.ofNat 4)], V.bool true),
  ([V.ro 5 [pn 3 1 0 0, pn 3 1 0 1, pn 4 0 1 0, pn 3 1 0 2, pn 5 2 3 0], V.int .i64 (.ofNat 4)], V.bool true),
  ([V.ro 5 [pn 3 1 0 0, pn 6 0 0 0], V.int .i64 (.ofNat 4)], V.bool true),
  ([V.ro 5 [pn 3 1 0 0, pn 3 1 0 1, pn 5 0 1 0, pn 6 2 0 0], V.int .i64 (.ofNat 4)], V.bool true),
  ([V.ro 5 [pn 3 1 0 0, pn 6 0 0 0, pn 3 1 0 1, pn 6 2 0 0, pn 5 1 3 0], V.int .i64 (.ofNat 4)], V.bool true),
  ([V.ro 5 [pn 3 5 0 0], V.int .i64 (.ofNat 4)], V.bool true),
  ([V.ro 5 [pn 3 3 0 0, pn 6 0 0 0, pn 3 1 0 1, pn 5 1 2 0], V.int .i64 (.ofNat 4)], V.bool true),
  ([V.ro 5 [pn 3 1 0 0], V.int .i64 (.ofNat 4)], V.bool true),
  ([V.ro 5 [pn 3 1 0 0], V.int .i64 (.ofNat 4)], V.bool true),
  ([V.ro 5 [pn 3 1 0 0, pn 3 1 0 1, pn 5 0 1 0, pn 3 1 0 2, pn 5 2 3 0, pn 3 1 0 3, pn 5 4 5 0], V.int .i64 (.ofNat 4)], V.bool true)]
def manyTab0 : List (List V × V) := [([V.ps 54 5214898746301387581072463037930279992325940621998977935447165601409164154219205571344414832928402297716439522096627906056087609441, namesV], V.tup [V.ro 5 [pn 3 1 0 0, pn 3 1 0 1, pn 4 0 1 0, pn 3 1 0 2, pn 4 2 3 0, pn 3 1 0 3, pn 4 4 5 0, pn 3 1 0 0, pn 4 6 7 0, pn 3 1 0 1, pn 4 8 9 0, pn 3 1 0 2, pn 4 10 11 0, pn 3 1 0 3, pn 4 12 13 0, pn 3 1 0 0, pn 4 14 15 0, pn 3 1 0 1, pn 4 16 17 0, pn 3 1 0 2, pn 4 18 19 0, pn 3 1 0 3, pn 4 20 21 0], V.int .i64 (.ofNat 0)]),
  ([V.ps 57 30142151300357490249035441061061984738076368632783365489518563611260161794660224712697460649755101960974407966377037901726210424345536554, namesV], V.tup [V.ro 5 [pn 3 1 0 0, pn 3 1 0 1, pn 4 0 1 0, pn 3 1 0 2, pn 4 2 3 0, pn 3 1 0 3, pn 4 4 5 0, pn 3 1 0 0, pn 4 6 7 0, pn 3 1 0 1, pn 4 8 9 0, pn 3 1 0 2, pn 4 10 11 0, pn 3 1 0 3, pn 4 12 13 0, pn 3 1 0 0, pn 4 14 15 0, pn 3 1 0 1, pn 4 16 17 0, pn 3 1 0 2, pn 4 18 19 0, pn 3 1 0 3, pn 4 20 21 0, pn 6 22 0 0], V.int .i64 (.ofNat 0)]),
  ([V.ps 58 18258319718255536551227849242877882387023231682587314446838490190956376108611330263482552189345304710535309536447522040800521725074310111329, namesV], V.tup [nil5, V.int .i64 (.ofNat 3)])]
def manyTab1 : List (List V × V) := [([V.ps 54 4207771384901032049233087739713997472700561056266693740360883478134139627855653598957958934260812980550101589348753408020773019745, namesV], V.tup [V.ro 5 [pn 3 1 0 0, pn 3 1 0 2, pn 4 0 1 0, pn 3 1 0 3, pn 4 2 3 0, pn 3 1 0 0, pn 4 4 5 0, pn 3 1 0 1, pn 4 6 7 0, pn 3 1 0 2, pn 4 8 9 0, pn 3 1 0 3, pn 4 10 11 0, pn 3 1 0 0, pn 4 12 13 0, pn 3 1 0 1, pn 4 14 15 0, pn 3 1 0 2, pn 4 16 17 0, pn 3 1 0 3, pn 4 18 19 0, pn 3 1 0 0, pn 4 20 21 0], V.int .i64 (.ofNat 0)]),
  ([V.ps 57 30076148201600756548900815761518082446870199757563534512509389026029209787300462970635141875980022827484594843616473198622968047395219498, namesV], V.tup [V.ro 5 [pn 3 1 0 0, pn 3 1 0 2, pn 4 0 1 0, pn 3 1 0 3, pn 4 2 3 0, pn 3 1 0 0, pn 4 4 5 0, pn 3 1 0 1, pn 4 6 7 0, pn 3 1 0 2, pn 4 8 9 0, pn 3 1 0 3, pn 4 10 11 0, pn 3 1 0 0, pn 4 12 13 0, pn 3 1 0 1, pn 4 14 15 0, pn 3 1 0 2, pn 4 16 17 0, pn 3 1 0 3, pn 4 18 19 0, pn 3 1 0 0, pn 4 20 21 0, pn 6 22 0 0], V.int .i64 (.ofNat 0)]),
  ([V.ps 58 18258319717248409189827493711038507088806949162961934881106205995870093985336305737119000216958848811867720219281184108052647227038995521633, namesV], V.tup [nil5, V.int .i64 (.ofNat 3)])]
def manyTab2 : List (List V × V) := [([V.ps 53 16605837299363983084444266829587043868062948791909765829220929910804281769032648442805190132419259734843705067847062341225750625, namesV], V.tup [V.ro 5 [pn 3 1 0 0, pn 3 1 0 3, pn 4 0 1 0, pn 3 1 0 0, pn 4 2 3 0, pn 3 1 0 1, pn 4 4 5 0, pn 3 1 0 2, pn 4 6 7 0, pn 3 1 0 3, pn 4 8 9 0, pn 3 1 0 0, pn 4 10 11 0, pn 3 1 0 1, pn 4 12 13 0, pn 3 1 0 2, pn 4 14 15 0, pn 3 1 0 3, pn 4 16 17 0, pn 3 1 0 0, pn 4 18 19 0, pn 3 1 0 1, pn 4 20 21 0], V.int .i64 (.ofNat 0)]),
  ([V.ps 56 117496044591219409059962280578007042712012747584604881505341237575158730396926709806057966406394424652823589656329992637262221835053098, namesV], V.tup [V.ro 5 [pn 3 1 0 0, pn 3 1 0 3, pn 4 0 1 0, pn 3 1 0 0, pn 4 2 3 0, pn 3 1 0 1, pn 4 4 5 0, pn 3 1 0 2, pn 4 6 7 0, pn 3 1 0 3, pn 4 8 9 0, pn 3 1 0 0, pn 4 10 11 0, pn 3 1 0 1, pn 4 12 13 0, pn 3 1 0 2, pn 4 14 15 0, pn 3 1 0 3, pn 4 16 17 0, pn 3 1 0 0, pn 4 18 19 0, pn 3 1 0 1, pn 4 20 21 0, pn 6 22 0 0], V.int .i64 (.ofNat 0)]),
  ([V.ps 57 71321561395670828724857973950871686161981386408146440295189110577303783454562743133342596169371166216821241136136996156534147571765682273, namesV], V.tup [nil5, V.int .i64 (.ofNat 3)])]
def manyTab3 : List (List V × V) := [([V.ps 52 32647709689158059167426795102659718707767694265674075644826802848018121087611419275706132662029696060297510973377838421057633, namesV], V.tup [V.ro 5 [pn 3 1 0 0, pn 3 1 0 0, pn 4 0 1 0, pn 3 1 0 1, pn 4 2 3 0, pn 3 1 0 2, pn 4 4 5 0, pn 3 1 0 3, pn 4 6 7 0, pn 3 1 0 0, pn 4 8 9 0, pn 3 1 0 1, pn 4 10 11 0, pn 3 1 0 2, pn 4 12 13 0, pn 3 1 0 3, pn 4 14 15 0, pn 3 1 0 0, pn 4 16 17 0, pn 3 1 0 1, pn 4 18 19 0, pn 3 1 0 2, pn 4 20 21 0], V.int .i64 (.ofNat 0)]),
  ([V.ps 55 456857430138002299536456408643313634688807943973029134549418020572245610063720304152208479711217668968979816276821475798714194929706, namesV], V.tup [V.ro 5 [pn 3 1 0 0, pn 3 1 0 0, pn 4 0 1 0, pn 3 1 0 1, pn 4 2 3 0, pn 3 1 0 2, pn 4 4 5 0, pn 3 1 0 3, pn 4 6 7 0, pn 3 1 0 0, pn 4 8 9 0, pn 3 1 0 1, pn 4 10 11 0, pn 3 1 0 2, pn 4 12 13 0, pn 3 1 0 3, pn 4 14 15 0, pn 3 1 0 0, pn 4 16 17 0, pn 3 1 0 1, pn 4 18 19 0, pn 3 1 0 2, pn 4 20 21 0, pn 6 22 0 0], V.int .i64 (.ofNat 0)]),
  ([V.ps 56 278599849169620332444993960989408901869825119254968832950359016067025449503324610791947152582604476741724935909099429288561765102854241, namesV], V.tup [nil5, V.int .i64 (.ofNat 3)])]

theorem wakes_says : Says ρ Tryd.prog 9 [] (.bool true) := says_toldT follows glob_ok runPat_ok (fun q hq => by cases hq) (by kernel_rfl)
theorem names_says : ∀ e ∈ [(([] : List V), namesV)], Says ρ Tryd.prog 6 e.1 e.2 := runsTab_ok follows glob_ok runPat_ok (by kernel_rfl)
theorem forms_says : ∀ e ∈ formsTab, Says ρ Tryd.prog 8 e.1 e.2 := runsTab_ok follows glob_ok runPat_ok (by kernel_rfl)
theorem check_says : ∀ e ∈ checkTab, Says ρ Tryd.prog 11 e.1 e.2 := runsTab_ok follows glob_ok runPat_ok (by kernel_rfl)
theorem many0 : ∀ e ∈ manyTab0, Says ρ Tryd.prog 8 e.1 e.2 := runsTab_ok follows glob_ok runPat_ok (by kernel_rfl)
theorem many1 : ∀ e ∈ manyTab1, Says ρ Tryd.prog 8 e.1 e.2 := runsTab_ok follows glob_ok runPat_ok (by kernel_rfl)
theorem many2 : ∀ e ∈ manyTab2, Says ρ Tryd.prog 8 e.1 e.2 := runsTab_ok follows glob_ok runPat_ok (by kernel_rfl)
theorem many3 : ∀ e ∈ manyTab3, Says ρ Tryd.prog 8 e.1 e.2 := runsTab_ok follows glob_ok runPat_ok (by kernel_rfl)

end Go.Proofs.YtibmbbogjkecoaaDoor.M

/- Comparisons of whole numbers whose signs are not known: natZ is a stop word here. -/
namespace Go.Proofs.YtibmbbogjkecoaaDoor.M
open Go
set_option linter.unusedSimpArgs false
set_option linter.unusedVariables false

theorem must_ok {y : Ans} (h : y = .ok) : must true y = .ok := h
theorem natZ_nat {a b : Nat} {f : Nat → Nat → Ans} {g : Ans} (h : f a b = .ok) : natZ (.ofNat a) (.ofNat b) f g = .ok := h
theorem forceN_mod {a b : Nat} {k : Nat → Ans} (h : k (a % b) = .ok) : forceN (Nat.mod a b) k = .ok := forceN_ok h
theorem forceN_div {a b : Nat} {k : Nat → Ans} (h : k (a / b) = .ok) : forceN (Nat.div a b) k = .ok := forceN_ok h
theorem forceB_as {b : Bool} (c : Bool) {k : Bool → Ans} (e : b = c) (h : k c = .ok) : forceB b k = .ok := by rw [forceB_eq, e]; exact h
/-- An answer that is not looked into. -/
noncomputable def ovRaw (F : List V → Option V) : OvT := fun args _ hp nx kr _ => match F args with
  | some v => kr v hp nx
  | none => .err 1
theorem ov_raw {ρ : Nat → Value} {P : Program} {f : FuncId} {F : List V → Option V} (h : ∀ args v, F args = some v → Says ρ P f args v) : OvOK ρ P f (ovRaw F) := by
  intro args forb hp nx kr kp hk
  unfold ovRaw at hk
  split at hk
  · rename_i v hv
    refine (h args v hv (absO hp) nx (inL forb)).mono ?_
    rintro o O m ⟨e1, e2, e3⟩
    subst e1 e2 e3
    exact ⟨hp, rfl, hk⟩
  · exact Ans.no hk
theorem boolK_dec {p : Prop} [Decidable p] {b : Bool} {x y : Ans} (hb : b = decide p) (h1 : p → x = .ok) (h2 : ¬ p → y = .ok) : boolK b x y = .ok := by
  subst hb
  by_cases h : p
  · rw [decide_eq_true h]; exact h1 h
  · rw [decide_eq_false h]; exact h2 h
theorem genI_bool {op : BinOp} {kd : IntKind} {m n : Int} {K : V → Ans} {b : Bool} (hb : binI op kd m n = some (.bool b)) (h : K (.bool b) = .ok) : genI op kd m n K = .ok := by
  unfold genI
  rw [hb]
  show giveV (.bool b) K = .ok
  show forceB b (fun b => K (.bool b)) = .ok
  rw [forceB_eq]
  exact h

theorem genI_int {op : BinOp} {kd : IntKind} {m n z : Int} {K : V → Ans} (hb : binI op kd m n = some (.int kd z)) (h : K (.int kd z) = .ok) : genI op kd m n K = .ok := by
  unfold genI
  rw [hb]
  show giveV (.int kd z) K = .ok
  show forceZ z (fun z => K (.int kd z)) = .ok
  rw [forceZ_eq]
  exact h
theorem natZ_add {m n : Int} {kd : IntKind} {K : V → Ans} (h : K (.int kd (kd.wrap (m + n))) = .ok) : natZ m n (fun a b => (natI .add).run kd a b K) (genI .add kd m n K) = .ok := by
  have hg : genI .add kd m n K = .ok := genI_int rfl h
  cases m with
  | negSucc a => exact hg
  | ofNat a =>
    cases n with
    | negSucc b => exact hg
    | ofNat b =>
      show (forceN (Nat.add a b) fun c => boolK (Nat.ble c (maxK kd)) (K (.int kd (.ofNat c))) (genI .add kd (.ofNat a) (.ofNat b) K)) = .ok
      rw [forceN_eq]
      cases hb : Nat.ble (Nat.add a b) (maxK kd) with
      | false => exact hg
      | true =>
        have e : kd.wrap (Int.ofNat a + Int.ofNat b) = Int.ofNat (Nat.add a b) := wrap_small (Nat.le_of_ble_eq_true hb)
        rw [e] at h
        exact h

theorem natZ_eql {m n : Int} {kd kd' : IntKind} {K : V → Ans} (h1 : m = n → K (.bool true) = .ok) (h2 : ¬ (m = n) → K (.bool false) = .ok) : natZ m n (fun a b => (natI .eql).run kd a b K) (genI .eql kd' m n K) = .ok := by
  have hg : genI .eql kd' m n K = .ok := by
    by_cases h : m = n
    · exact genI_bool (b := true) (by simp [binI]; exact h) (h1 h)
    · exact genI_bool (b := false) (by simp [binI]; exact h) (h2 h)
  cases m with
  | negSucc a => exact hg
  | ofNat a =>
    cases n with
    | negSucc b => exact hg
    | ofNat b =>
      show boolK (Nat.beq a b) (K (.bool true)) (K (.bool false)) = .ok
      cases hb : Nat.beq a b with
      | true => exact h1 (by rw [Nat.eq_of_beq_eq_true hb])
      | false => exact h2 (fun e => beq_false' hb (Int.ofNat.inj e))
theorem natZ_eql_t {m n : Int} {kd kd' : IntKind} {K : V → Ans} (h : m = n) (hk : K (.bool true) = .ok) : natZ m n (fun a b => (natI .eql).run kd a b K) (genI .eql kd' m n K) = .ok := natZ_eql (fun _ => hk) fun g => (g h).elim
theorem natZ_eql_f {m n : Int} {kd kd' : IntKind} {K : V → Ans} (h : ¬ (m = n)) (hk : K (.bool false) = .ok) : natZ m n (fun a b => (natI .eql).run kd a b K) (genI .eql kd' m n K) = .ok := natZ_eql (fun g => (h g).elim) fun _ => hk

theorem natZ_neq {m n : Int} {kd kd' : IntKind} {K : V → Ans} (h1 : m ≠ n → K (.bool true) = .ok) (h2 : ¬ (m ≠ n) → K (.bool false) = .ok) : natZ m n (fun a b => (natI .neq).run kd a b K) (genI .neq kd' m n K) = .ok := by
  have hg : genI .neq kd' m n K = .ok := by
    by_cases h : m ≠ n
    · exact genI_bool (b := true) (by simp [binI]; exact h) (h1 h)
    · exact genI_bool (b := false) (by simp [binI]; simpa using h) (h2 h)
  cases m with
  | negSucc a => exact hg
  | ofNat a =>
    cases n with
    | negSucc b => exact hg
    | ofNat b =>
      show boolK (Nat.beq a b) (K (.bool false)) (K (.bool true)) = .ok
      cases hb : Nat.beq a b with
      | true => exact h2 (fun e => e (by rw [Nat.eq_of_beq_eq_true hb]))
      | false => exact h1 (fun e => beq_false' hb (Int.ofNat.inj e))
theorem natZ_neq_t {m n : Int} {kd kd' : IntKind} {K : V → Ans} (h : m ≠ n) (hk : K (.bool true) = .ok) : natZ m n (fun a b => (natI .neq).run kd a b K) (genI .neq kd' m n K) = .ok := natZ_neq (fun _ => hk) fun g => (g h).elim
theorem natZ_neq_f {m n : Int} {kd kd' : IntKind} {K : V → Ans} (h : ¬ (m ≠ n)) (hk : K (.bool false) = .ok) : natZ m n (fun a b => (natI .neq).run kd a b K) (genI .neq kd' m n K) = .ok := natZ_neq (fun g => (h g).elim) fun _ => hk

theorem natZ_lss {m n : Int} {kd kd' : IntKind} {K : V → Ans} (h1 : m < n → K (.bool true) = .ok) (h2 : ¬ (m < n) → K (.bool false) = .ok) : natZ m n (fun a b => (natI .lss).run kd a b K) (genI .lss kd' m n K) = .ok := by
  have hg : genI .lss kd' m n K = .ok := by
    by_cases h : m < n
    · exact genI_bool (b := true) (by simp [binI]; exact h) (h1 h)
    · exact genI_bool (b := false) (by simp [binI]; omega) (h2 h)
  cases m with
  | negSucc a => exact hg
  | ofNat a =>
    cases n with
    | negSucc b => exact hg
    | ofNat b =>
      show boolK (Nat.ble (Nat.succ a) b) (K (.bool true)) (K (.bool false)) = .ok
      cases hb : Nat.ble (Nat.succ a) b with
      | true => exact h1 (by have := Nat.le_of_ble_eq_true hb; show (((a : Nat) : Int) < ((b : Nat) : Int)); omega)
      | false => exact h2 (by have := ble_false hb; show ¬ (((a : Nat) : Int) < ((b : Nat) : Int)); omega)
theorem natZ_lss_t {m n : Int} {kd kd' : IntKind} {K : V → Ans} (h : m < n) (hk : K (.bool true) = .ok) : natZ m n (fun a b => (natI .lss).run kd a b K) (genI .lss kd' m n K) = .ok := natZ_lss (fun _ => hk) fun g => (g h).elim
theorem natZ_lss_f {m n : Int} {kd kd' : IntKind} {K : V → Ans} (h : ¬ (m < n)) (hk : K (.bool false) = .ok) : natZ m n (fun a b => (natI .lss).run kd a b K) (genI .lss kd' m n K) = .ok := natZ_lss (fun g => (h g).elim) fun _ => hk

theorem natZ_leq {m n : Int} {kd kd' : IntKind} {K : V → Ans} (h1 : m ≤ n → K (.bool true) = .ok) (h2 : ¬ (m ≤ n) → K (.bool false) = .ok) : natZ m n (fun a b => (natI .leq).run kd a b K) (genI .leq kd' m n K) = .ok := by
  have hg : genI .leq kd' m n K = .ok := by
    by_cases h : m ≤ n
    · exact genI_bool (b := true) (by simp [binI]; exact h) (h1 h)
    · exact genI_bool (b := false) (by simp [binI]; omega) (h2 h)
  cases m with
  | negSucc a => exact hg
  | ofNat a =>
    cases n with
    | negSucc b => exact hg
    | ofNat b =>
      show boolK (Nat.ble a b) (K (.bool true)) (K (.bool false)) = .ok
      cases hb : Nat.ble a b with
      | true => exact h1 (by have := Nat.le_of_ble_eq_true hb; show (((a : Nat) : Int) ≤ ((b : Nat) : Int)); omega)
      | false => exact h2 (by have := ble_false hb; show ¬ (((a : Nat) : Int) ≤ ((b : Nat) : Int)); omega)
theorem natZ_leq_t {m n : Int} {kd kd' : IntKind} {K : V → Ans} (h : m ≤ n) (hk : K (.bool true) = .ok) : natZ m n (fun a b => (natI .leq).run kd a b K) (genI .leq kd' m n K) = .ok := natZ_leq (fun _ => hk) fun g => (g h).elim
theorem natZ_leq_f {m n : Int} {kd kd' : IntKind} {K : V → Ans} (h : ¬ (m ≤ n)) (hk : K (.bool false) = .ok) : natZ m n (fun a b => (natI .leq).run kd a b K) (genI .leq kd' m n K) = .ok := natZ_leq (fun g => (h g).elim) fun _ => hk

theorem natZ_gtr {m n : Int} {kd kd' : IntKind} {K : V → Ans} (h1 : n < m → K (.bool true) = .ok) (h2 : ¬ (n < m) → K (.bool false) = .ok) : natZ m n (fun a b => (natI .gtr).run kd a b K) (genI .gtr kd' m n K) = .ok := by
  have hg : genI .gtr kd' m n K = .ok := by
    by_cases h : n < m
    · exact genI_bool (b := true) (by simp [binI]; exact h) (h1 h)
    · exact genI_bool (b := false) (by simp [binI]; omega) (h2 h)
  cases m with
  | negSucc a => exact hg
  | ofNat a =>
    cases n with
    | negSucc b => exact hg
    | ofNat b =>
      show boolK (Nat.ble (Nat.succ b) a) (K (.bool true)) (K (.bool false)) = .ok
      cases hb : Nat.ble (Nat.succ b) a with
      | true => exact h1 (by have := Nat.le_of_ble_eq_true hb; show (((b : Nat) : Int) < ((a : Nat) : Int)); omega)
      | false => exact h2 (by have := ble_false hb; show ¬ (((b : Nat) : Int) < ((a : Nat) : Int)); omega)
theorem natZ_gtr_t {m n : Int} {kd kd' : IntKind} {K : V → Ans} (h : n < m) (hk : K (.bool true) = .ok) : natZ m n (fun a b => (natI .gtr).run kd a b K) (genI .gtr kd' m n K) = .ok := natZ_gtr (fun _ => hk) fun g => (g h).elim
theorem natZ_gtr_f {m n : Int} {kd kd' : IntKind} {K : V → Ans} (h : ¬ (n < m)) (hk : K (.bool false) = .ok) : natZ m n (fun a b => (natI .gtr).run kd a b K) (genI .gtr kd' m n K) = .ok := natZ_gtr (fun g => (h g).elim) fun _ => hk

theorem natZ_geq {m n : Int} {kd kd' : IntKind} {K : V → Ans} (h1 : n ≤ m → K (.bool true) = .ok) (h2 : ¬ (n ≤ m) → K (.bool false) = .ok) : natZ m n (fun a b => (natI .geq).run kd a b K) (genI .geq kd' m n K) = .ok := by
  have hg : genI .geq kd' m n K = .ok := by
    by_cases h : n ≤ m
    · exact genI_bool (b := true) (by simp [binI]; exact h) (h1 h)
    · exact genI_bool (b := false) (by simp [binI]; omega) (h2 h)
  cases m with
  | negSucc a => exact hg
  | ofNat a =>
    cases n with
    | negSucc b => exact hg
    | ofNat b =>
      show boolK (Nat.ble b a) (K (.bool true)) (K (.bool false)) = .ok
      cases hb : Nat.ble b a with
      | true => exact h1 (by have := Nat.le_of_ble_eq_true hb; show (((b : Nat) : Int) ≤ ((a : Nat) : Int)); omega)
      | false => exact h2 (by have := ble_false hb; show ¬ (((b : Nat) : Int) ≤ ((a : Nat) : Int)); omega)
theorem natZ_geq_t {m n : Int} {kd kd' : IntKind} {K : V → Ans} (h : n ≤ m) (hk : K (.bool true) = .ok) : natZ m n (fun a b => (natI .geq).run kd a b K) (genI .geq kd' m n K) = .ok := natZ_geq (fun _ => hk) fun g => (g h).elim
theorem natZ_geq_f {m n : Int} {kd kd' : IntKind} {K : V → Ans} (h : ¬ (n ≤ m)) (hk : K (.bool false) = .ok) : natZ m n (fun a b => (natI .geq).run kd a b K) (genI .geq kd' m n K) = .ok := natZ_geq (fun g => (h g).elim) fun _ => hk

/-- Not looked into. -/
theorem natZ_gtr_raw {m n : Int} {kd kd' : IntKind} {K : V → Ans} (hk : K (.bool (decide (n < m))) = .ok) : natZ m n (fun a b => (natI .gtr).run kd a b K) (genI .gtr kd' m n K) = .ok :=
  natZ_gtr (fun h => by rwa [decide_eq_true h] at hk) (fun h => by rwa [decide_eq_false h] at hk)
theorem natZ_quo {m n : Int} {b : Nat} {kd : IntKind} {K : V → Ans} (hn : n = .ofNat b) (hb : 1 ≤ b) (h : K (.int kd (kd.wrap (m.tdiv n))) = .ok) :
    natZ m n (fun a b => must (Nat.ble 1 b) (forceN (Nat.div a b) fun c => boolK (Nat.ble c (maxK kd)) (K (.int kd (.ofNat c))) (divK kd n (kd.wrap (m.tdiv n)) K))) (divK kd n (kd.wrap (m.tdiv n)) K) = .ok := by
  subst hn
  have hd : divK kd (.ofNat b) (kd.wrap (m.tdiv (.ofNat b))) K = .ok := by
    unfold divK
    have : decide ((Int.ofNat b : Int) ≠ 0) = true := decide_eq_true (by intro e; have e : (b : Int) = 0 := e; omega)
    rw [this]
    refine must_ok ?_
    rw [forceZ_eq]
    exact h
  cases m with
  | negSucc a => exact hd
  | ofNat a =>
    show must (Nat.ble 1 b) (forceN (Nat.div a b) fun c => boolK (Nat.ble c (maxK kd)) (K (.int kd (.ofNat c))) (divK kd (.ofNat b) (kd.wrap ((Int.ofNat a).tdiv (.ofNat b))) K)) = .ok
    rw [Nat.ble_eq_true_of_le hb]
    refine must_ok ?_
    rw [forceN_eq]
    cases hc : Nat.ble (Nat.div a b) (maxK kd) with
    | false => exact hd
    | true =>
      have e : (Int.ofNat a).tdiv (Int.ofNat b) = Int.ofNat (Nat.div a b) := rfl
      rw [e, wrap_small (Nat.le_of_ble_eq_true hc)] at h
      exact h

end Go.Proofs.YtibmbbogjkecoaaDoor.M
