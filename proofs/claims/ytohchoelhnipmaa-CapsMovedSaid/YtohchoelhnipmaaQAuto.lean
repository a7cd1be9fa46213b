/- Steps of the logic, one operation at a time, by reckoning. -/
import Derived.Test.YtohchoelhnipmaaQGhost
namespace Go.Proofs.Ytohchoelhnipmaa.Q
open Go Go.RowKit
set_option linter.unusedSimpArgs false
set_option linter.unusedVariables false

variable {P : Program} {σ : St} {K : Ex → St → Prop}

/-- What is known of the program's types. -/
def FOK (P : Program) (F : TypeId → Option TI) : Prop := ∀ t ti, F t = some ti → TyOK P t ti

def tlook : List (Nat × TI) → Nat → Option TI
  | [], _ => none
  | (k, v) :: r, t => match Nat.beq k t with
    | true => some v
    | false => tlook r t

theorem fok_of {P : Program} : ∀ {l : List (Nat × TI)}, (∀ p ∈ l, TyOK P p.1 p.2) → FOK P (tlook l)
  | [], _, _, _, h => by cases h
  | (k, v) :: r, hl, t, ti, h => by
    unfold tlook at h
    split at h
    · rename_i e
      cases h
      have := Nat.eq_of_beq_eq_true e
      subst this
      exact hl (k, v) (by simp)
    · exact fok_of (fun p hp => hl p (by simp [hp])) t ti h

/-- A list comes out written out. -/
def forceL {α β : Type} : List α → (List α → Option β) → Option β
  | [], k => k []
  | x :: l, k => forceL l fun l' => k (x :: l')

theorem forceL_eq {α β : Type} : ∀ (l : List α) (k : List α → Option β), forceL l k = k l
  | [], _ => rfl
  | x :: l, k => by rw [forceL, forceL_eq l]

/-- What an operation that only looks yields, where that can be reckoned. -/
def qv (F : TypeId → Option TI) (σ : St) (rm : List Nat) : Op → Option V
  | .move x => evalV σ x
  | .assign x => evalV σ x
  | .pick c x y => match evalV σ c with
    | some (.sc (.bool true)) => evalV σ x
    | some (.sc (.bool false)) => evalV σ y
    | _ => none
  | .nilCheck x => match evalV σ x with
    | some (.ptr k r c) => some (.ptr k r c)
    | some (.pro l) => some (.pro l)
    | some (.fn (.func f) l) => some (.fn (.func f) l)
    | _ => none
  | .fieldAddr t x i => match F t with
    | some ⟨_, .struct fs, _⟩ => match fs[i]? with
      | some (off, n + 1, _) => match evalV σ x with
        | some (.ptr k r c) => some (.ptr k r (c + off))
        | some (.pro l) => some (.pro (l.drop off))
        | _ => none
      | _ => none
    | _ => none
  | .field t x i => match F t with
    | some ⟨_, .struct fs, _⟩ => match fs[i]? with
      | some (off, _, false) => match evalV σ x with
        | some (.agg l) => l[off]?
        | _ => none
      | _ => none
    | _ => none
  | .load t x => match F t with
    | some ⟨n, .struct _, _⟩ => match evalV σ x with
      | some (.ptr k r c) => match rm.contains k with
        | true => none
        | false => match σ.objs[k]? with
          | some (some ob) => match ob.rows[r]? with
            | some row => match Nat.beq ((row.drop c).take n).length n with
              | true => forceL ((row.drop c).take n) fun l => some (.agg l)
              | false => none
            | none => none
          | _ => none
      | some (.pro l) => match Nat.beq (l.take n).length n with
        | true => forceL (l.take n) fun l => some (.agg l)
        | false => none
      | _ => none
    | some _ => match evalV σ x with
      | some (.ptr k r c) => match rm.contains k with
        | true => none
        | false => match σ.objs[k]? with
          | some (some ob) => match ob.rows[r]? with
            | some row => row[c]?
            | none => none
          | _ => none
      | some (.pro l) => l[0]?
      | _ => none
    | none => none
  | .extract x i => match evalV σ x with
    | some (.tup l) => l[i]?
    | _ => none
  | .unOp .not _ x => match evalV σ x with
    | some (.sc (.bool b)) => some (.sc (.bool (!b)))
    | _ => none
  | .makeFunc f first caps => match first.toList with
    | [] => (evalL σ caps.toList).map (.fn f)
    | _ => none
  | .binOp op _ x y _ => match evalV σ x, evalV σ y with
    | some (.sc (.int k m)), some (.sc (.int k' n)) => match decide (k = k') with
      | true => (binI op k m n).map .sc
      | false => none
    | some (.sc (.string m)), some (.sc (.string n)) => (binS op m n).map .sc
    | _, _ => none
  | .call ⟨.builtin .len, args, ats⟩ => match args.toList, ats.toList with
    | [x], [t] => match F t, evalV σ x with
      | some ⟨_, .slice _ _ _, _⟩, some (.ro _ rows) => some (.sc (.int .i64 rows.length))
      | some ⟨_, .slice _ _ _, _⟩, some (.sl _ _ len) => some (.sc (.int .i64 len))
      | some ⟨_, .slice _ _ _, _⟩, some (.sc (.slice none 0 0)) => some (.sc (.int .i64 0))
      | some ⟨_, .string, _⟩, some (.sc (.string s)) => some (.sc (.int .i64 s.size))
      | _, _ => none
    | _, _ => none
  | .indexAddr t x y => match F t, evalV σ y with
    | some ⟨_, .slice _ es _, _⟩, some (.sc (.int _ (.ofNat i))) => match evalV σ x with
      | some (.sl k off len) => match σ.objs[k]? with
        | some (some ob) => match Nat.beq ob.s es && Nat.blt i len with
          | true => some (.ptr k (off + i) 0)
          | false => none
        | _ => none
      | some (.ro s rows) => match Nat.beq s es, rows[i]? with
        | true, some row => some (.pro row)
        | _, _ => none
      | _ => none
    | _, _ => none
  | .build t parts => match F t with
    | some ⟨_, .struct fs, z⟩ => match evalParts σ parts.toList with
      | some l => match fillV (placeOf fs) (z.map V.sc) l with
        | some row => forceL row fun row => some (.agg row)
        | none => none
      | none => none
    | _ => none
  | _ => none

theorem qv_sound {F : TypeId → Option TI} (hF : FOK P F) {rm : List Nat} {o : Oper} {v : V} (h : qv F σ rm o.op = some v) : QQ P σ rm o v := by
  generalize ho : o.op = op at h
  unfold qv at h
  split at h
  · exact qq_move (.inl ho) h
  · exact qq_move (.inr ho) h
  · split at h
    · rename_i c x y hc; exact qq_pick ho hc h
    · rename_i c x y hc; exact qq_pick ho hc h
    · cases h
  · split at h
    · rename_i x k r c hx; cases h; exact qq_nilCheck ho hx rfl
    · rename_i x l hx; cases h; exact qq_nilCheck ho hx rfl
    · rename_i x f l hx; cases h; exact qq_nilCheck ho hx rfl
    · cases h
  · split at h
    · rename_i t x i _ fs _ ht
      split at h
      · rename_i off n g hi
        split at h
        · rename_i k r c hx; cases h; exact qq_fieldAddr_ptr ho hx (hF _ _ ht) rfl hi (by omega)
        · rename_i l hx; cases h; exact qq_fieldAddr_pro ho hx (hF _ _ ht) rfl hi (by omega)
        · cases h
      · cases h
    · cases h
  · split at h
    · rename_i t x i _ fs _ ht
      split at h
      · rename_i off n hi
        split at h
        · rename_i l hx; exact qq_field_word ho hx (hF _ _ ht) rfl hi h
        · cases h
      · cases h
    · cases h
  · split at h
    · rename_i t x n fs z ht
      split at h
      · rename_i k r c hx
        split at h
        · cases h
        · rename_i hk
          split at h
          · rename_i ob hob
            split at h
            · rename_i row hrow
              split at h
              · rename_i hn
                rw [forceL_eq] at h
                cases h
                exact qq_load_agg ho hx (hF _ _ ht) rfl (by simpa using hk) hob hrow rfl (Nat.eq_of_beq_eq_true hn)
              · cases h
            · cases h
          · cases h
      · rename_i l hx
        split at h
        · rename_i hn
          rw [forceL_eq] at h
          cases h
          exact qq_load_agg_pro ho hx (hF _ _ ht) rfl rfl (Nat.eq_of_beq_eq_true hn)
        · cases h
      · cases h
    · rename_i t x ti hns ht
      have hagg : ti.sh.agg = false := by
        cases hs : ti.sh with
        | struct fs =>
          obtain ⟨n, sh, z⟩ := ti
          simp only at hs
          subst hs
          exact (hns n fs z rfl).elim
        | _ => rfl
      split at h
      · rename_i k r c hx
        split at h
        · cases h
        · rename_i hk
          split at h
          · rename_i ob hob
            split at h
            · rename_i row hrow
              exact qq_load_word ho hx (hF _ _ ht) hagg (by simpa using hk) hob hrow h
            · cases h
          · cases h
      · rename_i l hx
        exact qq_load_word_pro ho hx (hF _ _ ht) hagg h
      · cases h
    · cases h
  · split at h
    · rename_i x i l hx; exact qq_extract ho hx h
    · cases h
  · split at h
    · rename_i ty x b hx; cases h; exact qq_not ⟨_, ho⟩ hx
    · cases h
  · split at h
    · rename_i f first caps _ hfirst
      have : first = #[] := by simpa using hfirst
      subst this
      simp only [Option.map_eq_some_iff] at h
      obtain ⟨l, hl, rfl⟩ := h
      exact qq_makeFunc ho hl
    · cases h
  · split at h
    · rename_i op ty x y u k m k' n hx hy
      split at h
      · rename_i hk
        have hk : k = k' := of_decide_eq_true hk
        subst hk
        simp only [Option.map_eq_some_iff] at h
        obtain ⟨v, hv, rfl⟩ := h
        exact qq_binI ho hx hy hv
      · cases h
    · rename_i op ty x y u m n hx hy
      simp only [Option.map_eq_some_iff] at h
      obtain ⟨v, hv, rfl⟩ := h
      exact qq_binS ho hx hy hv
    · cases h
  · split at h
    · rename_i args ats _ _ x t hargs hats
      have e1 : args = #[x] := by apply Array.ext'; simpa using hargs
      have e2 : ats = #[t] := by apply Array.ext'; simpa using hats
      subst e1 e2
      split at h
      · rename_i _ e es eb _ s rows ht hx; cases h; exact qq_len_ro ⟨_, ho, rfl⟩ hx (hF _ _ ht) rfl
      · rename_i _ e es eb _ k off len ht hx; cases h; exact qq_len_sl ⟨_, ho, rfl⟩ hx (hF _ _ ht) rfl
      · rename_i _ e es eb _ ht hx; cases h; exact qq_len_nil ⟨_, ho, rfl⟩ hx (hF _ _ ht) rfl
      · rename_i _ _ s ht hx; cases h; exact qq_len_str ⟨_, ho, rfl⟩ hx (hF _ _ ht) rfl
      · cases h
    · cases h
  · split at h
    · rename_i t x y _ e es eb _ kd i ht hy
      split at h
      · rename_i k off len hx
        split at h
        · rename_i ob hob
          split at h
          · rename_i hb
            simp only [Bool.and_eq_true, Nat.blt_eq] at hb
            cases h
            exact qq_indexAddr_sl (i := (i : Int)) ho hx hy (hF _ _ ht) rfl hob (Nat.eq_of_beq_eq_true hb.1) (by omega) (by omega)
          · cases h
        · cases h
      · rename_i s rows hx
        split at h
        · rename_i row hs hrow
          cases h
          have := Nat.eq_of_beq_eq_true hs
          subst this
          exact qq_indexAddr_ro (i := (i : Int)) ho hx hy (hF _ _ ht) rfl (by omega) hrow
        · cases h
      · cases h
    · cases h
  · split at h
    · rename_i t parts _ fs z ht
      split at h
      · rename_i l hl
        split at h
        · rename_i row hrow
          rw [forceL_eq] at h
          cases h
          exact qq_build ho hl (hF _ _ ht) rfl hrow
        · cases h
      · cases h
    · cases h
  · cases h

/-- Operations one behind the other, said of the list: from number i on. -/
def QS (P : Program) (ops : Array Oper) (K : Ex → St → Prop) (todo : List Oper) (i : Nat) (σ : St) : Prop :=
  (∀ j, todo[j]? = ops[i + j]?) → ∀ (X : Ctx) (T : Tab) (a : Act) (w : World), HoldsT X T σ a w → wpOps P ops (Post X K) (List.range' i todo.length) a w

theorem q_reg {id : Nat} {ops : Array Oper} (h : QS P ops K ops.toList 0 σ) : QC P (.region id ops false) σ K := by
  intro X T a w hh
  refine wp_region ?_
  have := h (fun j => by simp) X T a w hh
  rwa [← List.range_eq_range', Array.length_toList] at this

theorem qs_done {ops : Array Oper} {i : Nat} (h : K .normal σ) : QS P ops K [] i σ := fun _ X T a w hh => ⟨T, σ, h, hh⟩

theorem qs_ghost {ops : Array Oper} {todo : List Oper} {i : Nat} {σ' : St} (h : Gh σ σ') (k : QS P ops K todo i σ') : QS P ops K todo i σ := fun hj X T a w hh => by
  obtain ⟨T', h'⟩ := h X T a w hh
  exact k hj X T' a w h'

theorem rest_of {ops : Array Oper} {o : Oper} {rest : List Oper} {i : Nat} (h : ∀ j, (o :: rest)[j]? = ops[i + j]?) : ops[i]? = some o ∧ ∀ j, rest[j]? = ops[i + 1 + j]? := by
  refine ⟨by have := h 0; simp at this; exact this.symm, fun j => ?_⟩
  have := h (j + 1)
  simp at this
  rw [this]
  congr 1
  omega

/-- Any operation, by a rule of its own. -/
theorem qs_by {ops : Array Oper} {o : Oper} {rest : List Oper} {i : Nat} (rm : List Nat) (hw : wantA ops σ o = some true) (h : QO P rm o σ (QS P ops K rest (i + 1)) K) : QS P ops K (o :: rest) i σ := by
  intro hj X T a w hh
  obtain ⟨h1, h2⟩ := rest_of hj
  simp only [List.length_cons, List.range'_succ]
  unfold wpOps
  simp only [h1]
  rw [if_pos (wantA_spec hh hw)]
  exact .inl (Oper.wp_mono (fun a' w' ⟨T', σ', h3, h4⟩ => h3 h2 X T' a' w' h4) (h.any X T a w hh))

/-- An operation that only looks. -/
theorem qs_one {ops : Array Oper} {F : TypeId → Option TI} (hF : FOK P F) {o : Oper} {rest : List Oper} {v : V} {i : Nat} {d : Option Tmp} (hw : wantA ops σ o = some true) (hv : qv F σ [] o.op = some v) (hdst : o.dst = d)
    (hd : dstOK o σ = true) (h : QS P ops K rest (i + 1) (σ.put d v)) : QS P ops K (o :: rest) i σ :=
  qs_by [] hw (qo_quiet (qv_sound hF hv) hd (by rw [hdst]; exact h))

/-- The same where it has been shown by hand what it yields. -/
theorem qs_yields {ops : Array Oper} {o : Oper} {rest : List Oper} {v : V} {i : Nat} (hw : wantA ops σ o = some true) (hv : QQ P σ [] o v) (hd : dstOK o σ = true)
    (h : QS P ops K rest (i + 1) (σ.put o.dst v)) : QS P ops K (o :: rest) i σ :=
  qs_by [] hw (qo_quiet hv hd h)

theorem qs_skip {ops : Array Oper} {o : Oper} {rest : List Oper} {i : Nat} {d : Option Tmp} (hw : wantA ops σ o = some false) (hdst : o.dst = d) (hd : dstOK o σ = true) (h : QS P ops K rest (i + 1) (σ.put d (.sc undef))) : QS P ops K (o :: rest) i σ := by
  subst hdst
  intro hj X T a w hh
  obtain ⟨h1, h2⟩ := rest_of hj
  simp only [List.length_cons, List.range'_succ]
  unfold wpOps
  simp only [h1]
  rw [if_neg (by rw [wantA_spec hh hw]; simp)]
  exact h h2 X T _ w (hh.put (.pure (.sc _)) (dstOK_spec hd))

theorem HoldsT.reput {X : Ctx} {T : Tab} {a : Act} {w : World} (h : HoldsT X T σ a w) {t : Nat} {v : V} (hv : look σ.tmps t = some v) : HoldsT X T (σ.put (some t) v) a w := by
  refine ⟨h.pre, h.mem, fun u q hq => ?_, h.size, h.defers, h.keep, h.fresh, h.avoid0, h.hm, h.hmods⟩
  by_cases e : t = u
  · subst e
    rw [show look (σ.put (some t) v).tmps t = some v from look_put _ _ _] at hq
    cases hq
    exact h.tmp t v hv
  · rw [show look (σ.put (some t) v).tmps u = look σ.tmps u from look_put_ne _ _ e] at hq
    exact h.tmp u q hq

theorem gh_reput {t : Nat} {v : V} (hv : look σ.tmps t = some v) : Gh σ (σ.put (some t) v) := fun X T a w h => ⟨T, h.reput hv⟩

/-- A truth value, either way. -/
theorem qs_case (t : Nat) {ops : Array Oper} {todo : List Oper} {i : Nat} {x : Bool} (hx : look σ.tmps t = some (.sc (.bool x)))
    (h1 : x = true → QS P ops K todo i (σ.put (some t) (.sc (.bool true)))) (h2 : x = false → QS P ops K todo i (σ.put (some t) (.sc (.bool false)))) : QS P ops K todo i σ := by
  refine qs_ghost (gh_reput hx) ?_
  cases x with
  | true => exact h1 rfl
  | false => exact h2 rfl

/-- The slot of an operation's guard. -/
def guardSlot (ops : Array Oper) (o : Oper) : Option Nat :=
  match o.guard with
  | some (j, _) => match ops[j]? with
    | some o' => o'.dst
    | none => none
  | none => none

/-- A guard that may be either. -/
theorem qs_split {ops : Array Oper} {o : Oper} {rest : List Oper} {i t : Nat} {x : Bool} (ht : guardSlot ops o = some t) (hx : look σ.tmps t = some (.sc (.bool x)))
    (h1 : x = true → QS P ops K (o :: rest) i (σ.put (some t) (.sc (.bool true)))) (h2 : x = false → QS P ops K (o :: rest) i (σ.put (some t) (.sc (.bool false)))) : QS P ops K (o :: rest) i σ :=
  qs_case t hx h1 h2

end Go.Proofs.Ytohchoelhnipmaa.Q
