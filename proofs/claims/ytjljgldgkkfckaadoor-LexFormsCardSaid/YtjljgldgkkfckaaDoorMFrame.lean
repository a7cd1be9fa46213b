/- A call may be looked at with the objects alone that it is about: what it makes afresh goes out as what nobody writes. -/
import Derived.Test.YtjljgldgkkfckaaDoorMLift
namespace Go.Proofs.YtjljgldgkkfckaaDoor.M
open Go Go.RowKit
set_option linter.unusedSimpArgs false
set_option linter.unusedVariables false

variable {ρ : Nat → Value} {P : Program}

/-- Of one cell: as it is, or the rows of an object of N that was made afresh. -/
inductive FrzC (N : Nat → Prop) (O : Objs) : V → V → Prop
  | same (q : V) (h : q.one = true) (hf : q.flat = true) : FrzC N O q q
  | sl (k off len : Nat) (full : Bool) (ob : Ob) (rows : List (List V)) (old : Nat → List V) (hN : N k) (hob : O k = some ob) (hl : rows.length = len)
      (ho : ∀ (r : Nat) (row' : List V), rows[r]? = some row' → ob.row (off + r) = some (old r) ∧ row'.length = (old r).length)
      (h : ∀ (r : Nat) (row' : List V), rows[r]? = some row' → ∀ (c : Nat) (q q' : V), (old r)[c]? = some q → row'[c]? = some q' → FrzC N O q q') :
      FrzC N O (.sl k off len full) (.ro ob.s rows)

/-- Of an answer. -/
inductive Frz (N : Nat → Prop) (O : Objs) : V → V → Prop
  | un (q : V) : Frz N O q .un
  | flat (q : V) (hf : q.flat = true) : Frz N O q q
  | cell {q q' : V} (h : FrzC N O q q') : Frz N O q q'
  | tup (l l' : List V) (hl : l'.length = l.length) (h : ∀ (i : Nat) (q q' : V), l[i]? = some q → l'[i]? = some q' → Frz N O q q') : Frz N O (.tup l) (.tup l')
  | agg (l l' : List V) (hl : l'.length = l.length) (h : ∀ (i : Nat) (q q' : V), l[i]? = some q → l'[i]? = some q' → Frz N O q q') : Frz N O (.agg l) (.agg l')

theorem FrzC.one {N : Nat → Prop} {O : Objs} {q q' : V} (h : FrzC N O q q') : q'.one = true := by
  cases h with
  | same _ h => exact h
  | sl => rfl

theorem FrzC.rep {w : World} {A L' N : Nat → Prop} {T : Tab} {O : Objs} (hm : HoldsM ρ w A T O) (hL : ∀ b, L' b → A b ∨ ∃ (j : Nat) (ob : Ob) (p : Pl), ¬ N j ∧ O j = some ob ∧ T j = some p ∧ p.b = b) :
    ∀ {q q' : V}, FrzC N O q q' → ∀ {v : Value}, Rep ρ w (Live A T O) T q v → RepP ρ w L' q' v := by
  have hL2 : ∀ b, L' b → Live A T O b := fun b h => (hL b h).imp id fun ⟨j, ob, p, _, h1, h2, h3⟩ => ⟨j, ob, p, h1, h2, h3⟩
  intro q q' h
  induction h with
  | same q h1 hf =>
    intro v hr
    exact (repP_flat hr hf).later (Nat.le_refl _) (fun _ _ _ => rfl) fun b _ hn hl => hn (hL2 b hl)
  | sl k off len full ob rows old hN hob hl ho h ih =>
    intro v hr
    obtain ⟨p, at_, cap, hT, ha, hc, hf, ⟨C, t, fr, hC, hroom⟩, rfl⟩ := rep_sl hr
    obtain ⟨p', hT', hA, hs, C', t', hC', hrow⟩ := hm.obj k ob hob
    rw [hT] at hT'
    cases hT'
    rw [hC] at hC'
    cases hC'
    subst hl
    have hb : p.b < w.heap.size := rep_lt hm ⟨k, ob, p, hob, hT, rfl⟩
    have hnL : ¬ L' p.b := by
      intro g
      rcases hL _ g with g | ⟨j, ob2, p2, g1, g2, g3, g4⟩
      · exact hA g
      · have := hm.inj j k ob2 ob p2 p g2 hob g3 hT g4
        subst this
        exact g1 hN
    have cell : ∀ (r : Nat) (row' : List V), rows[r]? = some row' → ∀ (c : Nat) (q' : V), row'[c]? = some q' → ∃ x, C[at_ + (r * ob.s + c)]? = some x ∧ RepP ρ w L' q' x := by
      intro r row' hr' c q' hq'
      obtain ⟨h1, h2⟩ := ho r row' hr'
      obtain ⟨g1, g2, g3⟩ := hrow _ _ h1
      have hlt : c < (old r).length := by rw [← h2]; exact lt_of_get hq'
      obtain ⟨x, g4, g5⟩ := g3 c _ (List.getElem?_eq_getElem hlt)
      have hat : at_ = p.o + off * p.s := by
        rcases ha with e | e
        · have := lt_of_get hr'
          omega
        · exact e
      refine ⟨x, ?_, ih r row' hr' c _ q' (List.getElem?_eq_getElem hlt) hq' g5⟩
      rw [← g4, hat, hs, Nat.add_mul]
      congr 1
      omega
    refine RepP.ro ob.s rows p.b at_ cap (fun r c => (C[at_ + (r * ob.s + c)]?).getD undef) hnL hb hc (fun row' hm' => ?_) (fun r row' hr' c q' hq' => ?_) (fun r row' hr' c q' hq' => ?_)
    · obtain ⟨r, hr', rfl⟩ := List.mem_iff_getElem.mp hm'
      obtain ⟨h1, h2⟩ := ho r _ (List.getElem?_eq_getElem hr')
      obtain ⟨g1, g2, g3⟩ := hrow _ _ h1
      refine ⟨h2.trans g1, fun q' hq' => ?_⟩
      obtain ⟨c, hc', rfl⟩ := List.mem_iff_getElem.mp hq'
      exact (h r _ (List.getElem?_eq_getElem hr') c _ _ (List.getElem?_eq_getElem (by omega)) (List.getElem?_eq_getElem hc')).one
    · obtain ⟨x, h1, h2⟩ := cell r row' hr' c q' hq'
      rw [cell_at hC, h1]
      rfl
    · obtain ⟨x, h1, h2⟩ := cell r row' hr' c q' hq'
      rw [h1]
      exact h2

theorem Frz.rep {w : World} {A L' N : Nat → Prop} {T T' : Tab} {O : Objs} (hm : HoldsM ρ w A T O) (hL : ∀ b, L' b → A b ∨ ∃ (j : Nat) (ob : Ob) (p : Pl), ¬ N j ∧ O j = some ob ∧ T j = some p ∧ p.b = b) :
    ∀ {q q' : V}, Frz N O q q' → ∀ {v : Value}, Rep ρ w (Live A T O) T q v → Rep ρ w L' T' q' v := by
  have hL2 : ∀ b, L' b → Live A T O b := fun b h => (hL b h).imp id fun ⟨j, ob, p, _, h1, h2, h3⟩ => ⟨j, ob, p, h1, h2, h3⟩
  intro q q' h
  induction h with
  | un q => exact fun _ => rep_un
  | flat q hf => exact fun hr => .pure ((repP_flat hr hf).later (Nat.le_refl _) (fun _ _ _ => rfl) fun b _ hn hl => hn (hL2 b hl))
  | cell h => exact fun hr => .pure (h.rep hm hL hr)
  | tup l l' hl h ih =>
    intro v hr
    obtain ⟨vs, rfl, hs, hr⟩ := rep_tup hr
    refine .tup l' vs (by omega) fun i q' hq' => ?_
    have hi : i < l.length := by have := lt_of_get hq'; omega
    exact ih i _ q' (List.getElem?_eq_getElem hi) hq' (hr i _ (List.getElem?_eq_getElem hi))
  | agg l l' hl h ih =>
    intro v hr
    obtain ⟨vs, rfl, hs, hr⟩ := rep_agg hr
    refine .agg l' vs (by omega) fun i q' hq' => ?_
    have hi : i < l.length := by have := lt_of_get hq'; omega
    exact ih i _ q' (List.getElem?_eq_getElem hi) hq' (hr i _ (List.getElem?_eq_getElem hi))

/-- Of an object. -/
structure FrzOb (N : Nat → Prop) (O : Objs) (ob ob' : Ob) : Prop where
  s : ob'.s = ob.s
  rows : ∀ (r : Nat) (row' : List V), ob'.row r = some row' → ∃ row, ob.row r = some row ∧ row'.length = row.length ∧ ∀ (c : Nat) (q q' : V), row[c]? = some q → row'[c]? = some q' → FrzC N O q q'

inductive FrzOut (N : Nat → Prop) (O : Objs) : Out → Out → Prop
  | ret {v v' : V} (h : Frz N O v v') : FrzOut N O (.ret v) (.ret v')
  | panic {v v' : V} (h : Frz N O v v') : FrzOut N O (.panic v) (.panic v')

/-- An object whose cells hold no objects. -/
def Ob.flat (ob : Ob) : Prop := ∀ (r : Nat) (row : List V), ob.row r = some row → ∀ q ∈ row, q.flat = true

/-- Objects laid over others. -/
def putL : List Nat → List Ob → Objs → Objs
  | k :: κ, ob :: obs, O => Objs.put (putL κ obs O) k (some ob)
  | _, _, O => O

theorem putL_out : ∀ {κ : List Nat} {obs : List Ob} {O : Objs} {k : Nat}, k ∉ κ → putL κ obs O k = O k
  | [], _, _, _, _ => rfl
  | _ :: _, [], _, _, _ => rfl
  | j :: κ, ob :: obs, O, k, h => by
    show Objs.put (putL κ obs O) j (some ob) k = _
    unfold Objs.put
    rw [if_neg (fun e => h (by rw [e]; exact List.mem_cons_self))]
    exact putL_out fun g => h (List.mem_cons_of_mem _ g)

theorem putL_in : ∀ {κ : List Nat} {obs : List Ob} {O : Objs} {i k : Nat}, κ.Nodup → obs.length = κ.length → κ[i]? = some k → putL κ obs O k = obs[i]?
  | [], _, _, _, _, _, _, h => by simp at h
  | _ :: _, [], _, _, _, _, h, _ => by simp at h
  | j :: κ, ob :: obs, O, i, k, hn, hl, h => by
    show Objs.put (putL κ obs O) j (some ob) k = _
    unfold Objs.put
    rw [List.nodup_cons] at hn
    cases i with
    | zero =>
      simp at h
      subst h
      rw [if_pos rfl]
      rfl
    | succ i =>
      have h : κ[i]? = some k := by simpa using h
      have hmem : k ∈ κ := List.mem_of_getElem? h
      rw [if_neg (fun e => hn.1 (by rw [← e]; exact hmem))]
      exact putL_in hn.2 (by simpa using hl) h

theorem nodup_inj : ∀ {l : List Nat} {i j k : Nat}, l.Nodup → l[i]? = some k → l[j]? = some k → i = j
  | [], i, j, k, _, h, _ => by simp at h
  | x :: l, i, j, k, hn, h1, h2 => by
    rw [List.nodup_cons] at hn
    cases i with
    | zero =>
      cases j with
      | zero => rfl
      | succ j =>
        simp at h1 h2
        subst h1
        exact (hn.1 (List.mem_of_getElem? h2)).elim
    | succ i =>
      cases j with
      | zero =>
        simp at h1 h2
        subst h2
        exact (hn.1 (List.mem_of_getElem? h1)).elim
      | succ j =>
        simp at h1 h2
        rw [nodup_inj hn.2 h1 h2]

/-- An argument, inside and outside. -/
inductive Arg2 (κ : List Nat) : V → V → Prop
  | flat (q : V) (h : q.flat = true) : Arg2 κ q q
  | fn (f : FuncId) : Arg2 κ (.fn f []) (.fn f [])
  | ptr (i k r c : Nat) (h : κ[i]? = some k) : Arg2 κ (.ptr i r c) (.ptr k r c)
  | sl (i k off len : Nat) (full : Bool) (h : κ[i]? = some k) : Arg2 κ (.sl i off len full) (.sl k off len full)
  | agg (l l' : List V) (hl : l'.length = l.length) (h : ∀ (i : Nat) (q q' : V), l[i]? = some q → l'[i]? = some q' → Arg2 κ q q') : Arg2 κ (.agg l) (.agg l')

/-- What is said inside of an end. -/
def Inner (n : Nat) (R : Out → List Ob → Prop) (o : Out) (O : Objs) (m : Nat) : Prop :=
  ∃ (o' : Out) (obs' : List Ob), FrzOut (fun j => n ≤ j) O o o' ∧ obs'.length = n ∧ (∀ (i : Nat) (ob' : Ob), obs'[i]? = some ob' → ∃ ob, O i = some ob ∧ FrzOb (fun j => n ≤ j) O ob ob') ∧ R o' obs'

theorem frame {f : FuncId} {args args' : List V} {κ : List Nat} {obs : List Ob} {fi : CellP} {R : Out → List Ob → Prop} (hκ : κ.Nodup) (hlen : obs.length = κ.length) (hflat : ∀ ob ∈ obs, ob.flat)
    (hargs : args'.length = args.length ∧ ∀ (i : Nat) (q q' : V), args[i]? = some q → args'[i]? = some q' → Arg2 κ q q')
    (h : QCalls ρ P f args (fun i => obs[i]?) obs.length fi (Inner obs.length R)) {objs : Objs} {next : Nat} {forb : CellP}
    (ho : ∀ (i k : Nat), κ[i]? = some k → objs k = obs[i]?) (hf : ∀ (i k r c : Nat), κ[i]? = some k → forb k r c → fi i r c) :
    QCalls ρ P f args' objs next forb (fun o O m => ∃ obs', obs'.length = obs.length ∧ R o obs' ∧ O = putL κ obs' objs ∧ m = next) := by
  intro w A T vals hm htop hsz hvals
  have hob : ∀ (i k : Nat), κ[i]? = some k → ∃ ob p, obs[i]? = some ob ∧ objs k = some ob ∧ T k = some p := by
    intro i k hi
    have hlt : i < obs.length := by rw [hlen]; exact lt_of_get hi
    have e := ho i k hi
    rw [List.getElem?_eq_getElem hlt] at e
    obtain ⟨p, hp, _⟩ := hm.obj k _ e
    exact ⟨_, p, List.getElem?_eq_getElem hlt, e, hp⟩
  -- inside: these objects alone; all others are somebody else's
  let A' : Nat → Prop := fun b => A b ∨ ∃ (j : Nat) (ob : Ob) (p : Pl), j ∉ κ ∧ objs j = some ob ∧ T j = some p ∧ p.b = b
  let T' : Tab := fun i => (κ[i]?).bind T
  have hT' : ∀ (i k : Nat), κ[i]? = some k → T' i = T k := fun i k hi => by show (κ[i]?).bind T = _; rw [hi]; rfl
  have hLiveO : ∀ b, LiveO T' (fun i => obs[i]?) b ↔ ∃ (i k : Nat) (ob : Ob) (p : Pl), κ[i]? = some k ∧ objs k = some ob ∧ T k = some p ∧ p.b = b := by
    intro b
    constructor
    · rintro ⟨i, ob, p, h1, h2, h3⟩
      have hlt : i < κ.length := by rw [← hlen]; exact lt_of_get h1
      have hi : κ[i]? = some κ[i] := List.getElem?_eq_getElem hlt
      refine ⟨i, κ[i], ob, p, hi, ?_, ?_, h3⟩
      · rw [ho i _ hi]; exact h1
      · rw [← hT' i _ hi]; exact h2
    · rintro ⟨i, k, ob, p, h1, h2, h3, h4⟩
      exact ⟨i, ob, p, by show obs[i]? = some ob; rw [← ho i k h1]; exact h2, by rw [hT' i k h1]; exact h3, h4⟩
  have hLive : ∀ b, Live A' T' (fun i => obs[i]?) b ↔ Live A T objs b := by
    intro b
    constructor
    · rintro ((g | ⟨j, ob, p, _, h2, h3, h4⟩) | g)
      · exact .inl g
      · exact .inr ⟨j, ob, p, h2, h3, h4⟩
      · obtain ⟨i, k, ob, p, _, h2, h3, h4⟩ := (hLiveO b).mp g
        exact .inr ⟨k, ob, p, h2, h3, h4⟩
    · rintro (g | ⟨k, ob, p, h2, h3, h4⟩)
      · exact .inl (.inl g)
      · by_cases hk : k ∈ κ
        · obtain ⟨i, hi, e⟩ := List.mem_iff_getElem.mp hk
          exact .inr ((hLiveO b).mpr ⟨i, k, ob, p, by rw [List.getElem?_eq_getElem hi, e], h2, h3, h4⟩)
        · exact .inl (.inr ⟨k, ob, p, hk, h2, h3, h4⟩)
  have hLe : Live A' T' (fun i => obs[i]?) = Live A T objs := funext fun b => propext (hLive b)
  have hin : ∀ {i j : Nat} {k : Nat}, κ[i]? = some k → κ[j]? = some k → i = j := by
    intro i j k h1 h2
    exact nodup_inj hκ h1 h2
  have flatP : ∀ (i k : Nat) (ob : Ob) (p : Pl), κ[i]? = some k → objs k = some ob → T k = some p → RepOb ρ w (Live A' T' fun i => obs[i]?) T' p ob := by
    intro i k ob p hi hk hp
    obtain ⟨p', h1, hA, h2, C, t, h3, h4⟩ := hm.obj k ob hk
    rw [hp] at h1
    cases h1
    have hmem : ob ∈ obs := by
      have := ho i k hi
      rw [hk] at this
      exact List.mem_of_getElem? this.symm
    refine ⟨h2, C, t, h3, fun r row hr => ?_⟩
    obtain ⟨g1, g2, g3⟩ := h4 r row hr
    refine ⟨g1, g2, fun c q hq => ?_⟩
    obtain ⟨v, h6, h7⟩ := g3 c q hq
    refine ⟨v, h6, .pure ?_⟩
    rw [hLe]
    exact repP_flat h7 (hflat ob hmem r row hr q (List.mem_of_getElem? hq))
  have hM' : HoldsM ρ w A' T' (fun i => obs[i]?) := by
    refine ⟨fun b hb => ?_, fun i p hp => ?_, fun i ob hi => ?_, fun i j x y p q hi hj hp hq hb => ?_, ?_⟩
    · rcases hb with g | ⟨j, ob, p, _, h2, h3, h4⟩
      · exact hm.avoid b g
      · exact rep_lt hm ⟨j, ob, p, h2, h3, h4⟩
    · have hp : (κ[i]?).bind T = some p := hp
      obtain ⟨k, _, h2⟩ := Option.bind_eq_some_iff.mp hp
      exact hm.low k p h2
    · have hlt : i < κ.length := by rw [← hlen]; exact lt_of_get hi
      have hi' : κ[i]? = some κ[i] := List.getElem?_eq_getElem hlt
      obtain ⟨ob', p, h1, h2, h3⟩ := hob i _ hi'
      rw [hi] at h1
      cases h1
      refine ⟨p, by rw [hT' i _ hi']; exact h3, ?_, flatP i _ ob p hi' h2 h3⟩
      rintro (g | ⟨j, ob2, p2, g1, g2, g3, g4⟩)
      · obtain ⟨p', f1, f2, _⟩ := hm.obj _ _ h2
        rw [h3] at f1
        cases f1
        exact f2 g
      · have := hm.inj j _ ob2 ob p2 p g2 h2 g3 h3 g4
        exact g1 (by rw [this]; exact List.getElem_mem hlt)
    · have l1 : i < κ.length := by rw [← hlen]; exact lt_of_get hi
      have l2 : j < κ.length := by rw [← hlen]; exact lt_of_get hj
      have e1 : κ[i]? = some κ[i] := List.getElem?_eq_getElem l1
      have e2 : κ[j]? = some κ[j] := List.getElem?_eq_getElem l2
      rw [hT' i _ e1] at hp
      rw [hT' j _ e2] at hq
      have := hm.inj _ _ x y p q (by rw [ho i _ e1]; exact hi) (by rw [ho j _ e2]; exact hj) hp hq hb
      exact nodup_inj hκ e1 (by rw [e2, this])
    · exact hm.glob.congr fun b hb => (hLive b).mp hb
  have hargs2 : ∀ {q q' : V}, Arg2 κ q q' → ∀ {v : Value}, Rep ρ w (Live A T objs) T q' v → Rep ρ w (Live A' T' fun i => obs[i]?) T' q v := by
    intro q q' h
    induction h with
    | flat q hq => intro v hr; rw [hLe]; exact .pure (repP_flat hr hq)
    | fn f =>
      intro v hr
      obtain ⟨vs, rfl, hs, _⟩ := rep_fn hr
      exact .fn f [] vs hs fun i q hq => by simp at hq
    | ptr i k r c hi =>
      intro v hr
      obtain ⟨p, h1, rfl⟩ := rep_ptr hr
      exact .ptr i r c p (by rw [hT' i k hi]; exact h1)
    | sl i k off len full hi =>
      intro v hr
      obtain ⟨p, at_, cap, h1, h2, h3, h4, h5, rfl⟩ := rep_sl hr
      exact .sl i off len full p at_ cap (by rw [hT' i k hi]; exact h1) h2 h3 h4 h5
    | agg l l' hl h ih =>
      intro v hr
      obtain ⟨vs, rfl, hs, hr⟩ := rep_agg hr
      refine .agg l vs (by omega) fun i q hq => ?_
      have hi : i < l'.length := by have := lt_of_get hq; omega
      exact ih i q _ hq (List.getElem?_eq_getElem hi) (hr i _ (List.getElem?_eq_getElem hi))
  refine (h w A' T' vals hM' (fun i hi => ⟨?_, ?_⟩) (by rw [hsz]; exact hargs.1) (fun i q hq => ?_)).mono ?_
  · show (κ[i]?).bind T = none
    rw [List.getElem?_eq_none (by omega)]
    rfl
  · exact List.getElem?_eq_none (by omega)
  · have hi : i < args'.length := by have := lt_of_get hq; rw [hargs.1]; exact this
    exact hargs2 (hargs.2 i q _ hq (List.getElem?_eq_getElem hi)) (hvals i _ (List.getElem?_eq_getElem hi))
  rintro e w' ⟨out, O, n', T2, ⟨o', obs', hfrz, hl', hobs', hR⟩, hwent, hrep⟩
  -- outside again
  have hkeepB : ∀ b, b < w.heap.size → ¬ LiveO T' (fun i => obs[i]?) b → w'.heap[b]? = w.heap[b]? := hwent.keep.block
  have hnew : ∀ k, putL κ obs' objs k ≠ none ↔ objs k ≠ none := by
    intro k
    by_cases hk : k ∈ κ
    · obtain ⟨i, hi, e⟩ := List.mem_iff_getElem.mp hk
      have hi' : κ[i]? = some k := by rw [List.getElem?_eq_getElem hi, e]
      rw [putL_in hκ (by omega) hi', ho i k hi', List.getElem?_eq_getElem (by omega), List.getElem?_eq_getElem (by omega)]
      simp
    · rw [putL_out hk]
  have hLiveN : ∀ b, LiveO T (putL κ obs' objs) b ↔ LiveO T objs b := by
    intro b
    constructor
    · rintro ⟨k, ob, p, h1, h2, h3⟩
      have := (hnew k).mp (by rw [h1]; simp)
      cases e : objs k with
      | none => exact (this e).elim
      | some ob2 => exact ⟨k, ob2, p, e, h2, h3⟩
    · rintro ⟨k, ob, p, h1, h2, h3⟩
      have := (hnew k).mpr (by rw [h1]; simp)
      cases e : putL κ obs' objs k with
      | none => exact (this e).elim
      | some ob2 => exact ⟨k, ob2, p, e, h2, h3⟩
  have hLiveNe : Live A T (putL κ obs' objs) = Live A T objs := funext fun b => propext ⟨fun h => h.imp id (hLiveN b).mp, fun h => h.imp id (hLiveN b).mpr⟩
  have hlater : ∀ (q : V) (v : Value), Rep ρ w (Live A T objs) T q v → Rep ρ w' (Live A T (putL κ obs' objs)) T q v := fun q v hq => by
    rw [hLiveNe]
    exact hq.later hwent.keep.size (fun b hb hn => hkeepB b hb fun g => by
      obtain ⟨i, k, ob, p, _, h2, h3, h4⟩ := (hLiveO b).mp g
      exact hn (.inr ⟨k, ob, p, h2, h3, h4⟩)) (fun _ _ h => h) hwent.keep.shape (fun _ _ h => h)
  have hLout : ∀ b, Live A T (putL κ obs' objs) b → A' b ∨ ∃ (j : Nat) (ob : Ob) (p : Pl), ¬ obs.length ≤ j ∧ O j = some ob ∧ T2 j = some p ∧ p.b = b := by
    intro b hb
    rw [hLiveNe] at hb
    rcases (hLive b).mpr hb with g | g
    · exact .inl g
    · obtain ⟨i, k, ob, p, h1, h2, h3, h4⟩ := (hLiveO b).mp g
      right
      have hi : i < κ.length := lt_of_get h1
      obtain ⟨ob2, g1, _⟩ := hobs' i _ (List.getElem?_eq_getElem (show i < obs'.length by omega))
      exact ⟨i, ob2, p, by omega, g1, hwent.ext i p (by rw [hT' i k h1]; exact h3), h4⟩
  have hWent : Went ρ A forb T objs w T (putL κ obs' objs) next w' := by
    refine ⟨fun _ _ h => h, ⟨fun b hb => Nat.lt_of_lt_of_le (hm.avoid b hb) hwent.keep.size, fun k p hp => Nat.lt_of_lt_of_le (hm.low k p hp) hwent.keep.size, fun k ob hk => ?_, fun i j x y p q hi hj hp hq hb => ?_, ?_⟩, fun k hk => ⟨(htop k hk).1, ?_⟩, fun k p h1 h2 => (by rw [h1] at h2; cases h2), fun k _ h => (hnew k).mp h, fun k r c _ h => (hnew k).mpr h, hwent.keep.mono fun b _ hb => ?_, fun k r c p h1 h2 h3 h4 => ?_⟩
    · by_cases hmem : k ∈ κ
      · obtain ⟨i, hi, e⟩ := List.mem_iff_getElem.mp hmem
        have hi' : κ[i]? = some k := by rw [List.getElem?_eq_getElem hi, e]
        rw [putL_in hκ (by omega) hi'] at hk
        obtain ⟨ob0, p, g1, g2, g3⟩ := hob i k hi'
        obtain ⟨ob2, g4, g5⟩ := hobs' i ob hk
        obtain ⟨p2, f1, f2, f3, C, t, f4, f5⟩ := hwent.mem.obj i ob2 g4
        have f6 := hwent.ext i p (by rw [hT' i k hi']; exact g3)
        rw [f1] at f6
        cases f6
        obtain ⟨p', k1, k2, _⟩ := hm.obj k ob0 g2
        rw [g3] at k1
        cases k1
        refine ⟨p, g3, k2, by rw [f3, g5.s], C, t, f4, fun r row' hr => ?_⟩
        obtain ⟨row, j1, j2, j3⟩ := g5.rows r row' hr
        obtain ⟨j4, j5, j6⟩ := f5 r row j1
        refine ⟨by rw [j2, j4, g5.s], fun q' hq' => ?_, fun c q' hq' => ?_⟩
        · obtain ⟨c, hc, rfl⟩ := List.mem_iff_getElem.mp hq'
          exact (j3 c _ _ (List.getElem?_eq_getElem (by omega)) (List.getElem?_eq_getElem hc)).one
        · have hc : c < row.length := by have := lt_of_get hq'; omega
          obtain ⟨v, j7, j8⟩ := j6 c _ (List.getElem?_eq_getElem hc)
          exact ⟨v, j7, .pure ((j3 c _ q' (List.getElem?_eq_getElem hc) hq').rep hwent.mem hLout j8)⟩
      · rw [putL_out hmem] at hk
        obtain ⟨p, h1, hA, h2, C, t, h3, h4⟩ := hm.obj k ob hk
        have hne : ¬ LiveO T' (fun i => obs[i]?) p.b := by
          intro g
          obtain ⟨i, k2, ob2, p2, g1, g2, g3, g4⟩ := (hLiveO _).mp g
          have := hm.inj k2 k ob2 ob p2 p g2 hk g3 h1 g4
          exact hmem (by rw [← this]; exact List.mem_of_getElem? g1)
        refine ⟨p, h1, hA, h2, C, t, by rw [hkeepB p.b (lt_heap h3) hne]; exact h3, fun r row hr => ?_⟩
        obtain ⟨g1, g2, g3⟩ := h4 r row hr
        refine ⟨g1, g2, fun c q hq => ?_⟩
        obtain ⟨v, h6, h7⟩ := g3 c q hq
        exact ⟨v, h6, hlater _ _ h7⟩
    · have h1 := (hnew i).mp (by rw [hi]; simp)
      have h2 := (hnew j).mp (by rw [hj]; simp)
      cases e1 : objs i with
      | none => exact (h1 e1).elim
      | some x' =>
        cases e2 : objs j with
        | none => exact (h2 e2).elim
        | some y' => exact hm.inj i j x' y' p q e1 e2 hp hq hb
    · rw [hLiveNe]
      exact hm.glob.later hwent.keep.size (fun b hb hn => hkeepB b hb fun g => by
        obtain ⟨i, k, ob, p, _, h2, h3, h4⟩ := (hLiveO b).mp g
        exact hn (.inr ⟨k, ob, p, h2, h3, h4⟩)) (fun _ _ h => h)
    · have h2 := (htop k hk).2
      cases e : putL κ obs' objs k with
      | none => rfl
      | some x => exact ((hnew k).mp (by rw [e]; simp) h2).elim
    · obtain ⟨i, k, ob, p, _, h2, h3, h4⟩ := (hLiveO b).mp hb
      exact ⟨k, ob, p, h2, h3, h4⟩
    · by_cases hmem : k ∈ κ
      · obtain ⟨i, hi, e⟩ := List.mem_iff_getElem.mp hmem
        have hi' : κ[i]? = some k := by rw [List.getElem?_eq_getElem hi, e]
        exact hwent.cells i r c p (hf i k r c hi' h1) (by rw [← ho i k hi']; exact h2) (by rw [hT' i k hi']; exact h3) h4
      · have hne : ¬ LiveO T' (fun i => obs[i]?) p.b := by
          intro g
          obtain ⟨i, k2, ob2, p2, g1, g2, g3, g4⟩ := (hLiveO _).mp g
          cases e : objs k with
          | none => exact (h2 e).elim
          | some ob =>
            have := hm.inj k2 k ob2 ob p2 p g2 e g3 h3 g4
            exact hmem (by rw [← this]; exact List.mem_of_getElem? g1)
        exact cell_of_heap (w := w) (w' := w') (hkeepB p.b (hm.low k p h3) hne)
  refine ⟨o', putL κ obs' objs, next, T, ⟨obs', hl', hR, rfl, rfl⟩, hWent, ?_⟩
  cases hfrz with
  | ret hz =>
    cases e with
    | returned x => exact hz.rep hwent.mem hLout hrep
    | panicked c => exact hrep.elim
    | outgrown => exact hrep.elim
  | panic hz =>
    cases e with
    | returned x => exact hrep.elim
    | panicked c =>
      obtain ⟨x, h1, h2⟩ := hrep
      exact ⟨x, h1, hz.rep hwent.mem hLout h2⟩
    | outgrown => exact hrep.elim

end Go.Proofs.YtjljgldgkkfckaaDoor.M
