/- Calls of the logic: what is asked of a function, its body, and its call. -/
import Derived.Test.YtohchoelhnipmaaQStore
namespace Go.Proofs.Ytohchoelhnipmaa.Q
open Go Go.RowKit
set_option linter.unusedSimpArgs false
set_option linter.unusedVariables false

variable {P : Program}

mutual
/-- Objects by other numbers. -/
def V.map (e : Nat → Nat) : V → V
  | .sc v => .sc v
  | .ro s rows => .ro s rows
  | .pro l => .pro l
  | .ptr k r c => .ptr (e k) r c
  | .sl k off len => .sl (e k) off len
  | .fn f l => .fn f (V.mapL e l)
  | .agg l => .agg (V.mapL e l)
  | .tup l => .tup (V.mapL e l)
def V.mapL (e : Nat → Nat) : List V → List V
  | [] => []
  | q :: l => V.map e q :: V.mapL e l
end

mutual
/-- Are all objects that it names below n? -/
def V.idsLt (n : Nat) : V → Bool
  | .sc _ => true
  | .ro _ _ => true
  | .pro _ => true
  | .ptr k _ _ => Nat.blt k n
  | .sl k _ _ => Nat.blt k n
  | .fn _ l => V.idsLtL n l
  | .agg l => V.idsLtL n l
  | .tup l => V.idsLtL n l
def V.idsLtL (n : Nat) : List V → Bool
  | [] => true
  | q :: l => V.idsLt n q && V.idsLtL n l
end

theorem V.mapL_eq (e : Nat → Nat) (l : List V) : V.mapL e l = l.map (V.map e) := by
  induction l with
  | nil => rfl
  | cons q l ih => simp [V.mapL, ih]

theorem V.idsLtL_eq (n : Nat) (l : List V) : V.idsLtL n l = l.all (V.idsLt n) := by
  induction l with
  | nil => rfl
  | cons q l ih => simp [V.idsLtL, ih]

def Ob.map (e : Nat → Nat) (ob : Ob) : Ob := ⟨ob.s, ob.rows.map (V.mapL e)⟩
def Ob.idsLt (n : Nat) (ob : Ob) : Prop := ∀ row ∈ ob.rows, ∀ q ∈ row, q.idsLt n = true

theorem V.map_one (e : Nat → Nat) (q : V) : (q.map e).one = q.one := by cases q <;> simp [V.map, V.one]

/-- From one table to another: what is named lies where it lay. -/
theorem Rep.up {w : World} {L : Nat → Prop} {T T' : Tab} {e : Nat → Nat} {q : V} {v : Value} (h : Rep w L T q v)
    (hT : ∀ (k : Nat) (p : Nat × Nat), T[k]? = some p → T'[e k]? = some p) : Rep w L T' (q.map e) v := by
  induction h with
  | @pure q v h =>
    have : q.map e = q := by cases h <;> simp [V.map]
    rw [this]
    exact .pure h
  | ptr k r c b s h => simp only [V.map]; exact .ptr (e k) r c b s (hT _ _ h)
  | sl k off len cap b s h hc hroom => simp only [V.map]; exact .sl (e k) off len cap b s (hT _ _ h) hc hroom
  | fn f l vs hs h ih =>
    simp only [V.map, V.mapL_eq]
    refine .fn f _ vs (by simpa using hs) fun i q hq => ?_
    rw [List.getElem?_map] at hq
    simp only [Option.map_eq_some_iff] at hq
    obtain ⟨p, hp, rfl⟩ := hq
    exact ih i p hp
  | agg l vs hs h ih =>
    simp only [V.map, V.mapL_eq]
    refine .agg _ vs (by simpa using hs) fun i q hq => ?_
    rw [List.getElem?_map] at hq
    simp only [Option.map_eq_some_iff] at hq
    obtain ⟨p, hp, rfl⟩ := hq
    exact ih i p hp
  | tup l vs hs h ih =>
    simp only [V.map, V.mapL_eq]
    refine .tup _ vs (by simpa using hs) fun i q hq => ?_
    rw [List.getElem?_map] at hq
    simp only [Option.map_eq_some_iff] at hq
    obtain ⟨p, hp, rfl⟩ := hq
    exact ih i p hp

/-- The other way. -/
theorem Rep.down {w : World} {L : Nat → Prop} {T T' : Tab} {e : Nat → Nat} {n : Nat} (hT : ∀ (k : Nat), k < n → T[k]? = T'[e k]?) :
    ∀ (q : V) (v : Value), q.idsLt n = true → Rep w L T' (q.map e) v → Rep w L T q v
  | .sc x, v, _, h => by
    have h' : Rep w L T' (.sc x) v := by simpa [V.map] using h
    rw [rep_sc h']
    exact .pure (.sc _)
  | .ro s rows, v, _, h => by
    simp only [V.map] at h
    cases h with
    | pure h => exact .pure h
  | .pro l, v, _, h => by
    simp only [V.map] at h
    cases h with
    | pure h => exact .pure h
  | .ptr k r c, v, hb, h => by
    simp only [V.map] at h
    simp only [V.idsLt, Nat.blt_eq] at hb
    obtain ⟨b, s, h1, rfl⟩ := rep_ptr h
    exact .ptr k r c b s (by rw [hT k hb]; exact h1)
  | .sl k off len, v, hb, h => by
    simp only [V.map] at h
    simp only [V.idsLt, Nat.blt_eq] at hb
    obtain ⟨b, s, cap, h1, h2, h3, rfl⟩ := rep_sl h
    exact .sl k off len cap b s (by rw [hT k hb]; exact h1) h2 h3
  | .fn f l, v, hb, h => by
    simp only [V.map, V.mapL_eq] at h
    simp only [V.idsLt, V.idsLtL_eq, List.all_eq_true] at hb
    obtain ⟨vs, rfl, hs, hr⟩ := rep_fn h
    refine .fn f l vs (by simpa using hs) fun i q hq => ?_
    have hm : q ∈ l := List.mem_of_getElem? hq
    exact Rep.down hT q _ (hb q hm) (hr i _ (by rw [List.getElem?_map, hq]; rfl))
  | .agg l, v, hb, h => by
    simp only [V.map, V.mapL_eq] at h
    simp only [V.idsLt, V.idsLtL_eq, List.all_eq_true] at hb
    obtain ⟨vs, rfl, hs, hr⟩ := rep_agg h
    refine .agg l vs (by simpa using hs) fun i q hq => ?_
    have hm : q ∈ l := List.mem_of_getElem? hq
    exact Rep.down hT q _ (hb q hm) (hr i _ (by rw [List.getElem?_map, hq]; rfl))
  | .tup l, v, hb, h => by
    simp only [V.map, V.mapL_eq] at h
    simp only [V.idsLt, V.idsLtL_eq, List.all_eq_true] at hb
    obtain ⟨vs, rfl, hs, hr⟩ := rep_tup h
    refine .tup l vs (by simpa using hs) fun i q hq => ?_
    have hm : q ∈ l := List.mem_of_getElem? hq
    exact Rep.down hT q _ (hb q hm) (hr i _ (by rw [List.getElem?_map, hq]; rfl))

inductive Out where
  | ret (v : V)
  | panic (v : V)

def OutRep (w : World) (L : Nat → Prop) (T : Tab) : Out → Ending → Prop
  | .ret v, .returned x => Rep w L T v x
  | .panic v, .panicked chain => ∃ x, chain = [{ v := x, recovered := false }] ∧ Rep w L T v x
  | _, _ => False

def Mof (T : Tab) (mods : List Nat) (b : Nat) : Prop := ∃ (k s : Nat), k ∈ mods ∧ T[k]? = some (b, s)

/-- What a call of a function does: handed args and objects, of which it writes mods alone. -/
def QCalls (P : Program) (f : FuncId) (args : List V) (objs : Objs) (mods : List Nat) (R : Out → Objs → Prop) : Prop :=
  ∀ (w : World) (A : Nat → Prop) (T : Tab) (vals : Array Value), HoldsM w A T objs → vals.size = args.length →
    (∀ (i : Nat) (q : V), args[i]? = some q → Rep w (Live A T objs) T q (vals.getD i undef)) →
    Calls P f vals w fun e w' => ∃ out objs' T', R out objs' ∧ (∀ (k : Nat) (p : Nat × Nat), T[k]? = some p → T'[k]? = some p) ∧ HoldsM w' A T' objs' ∧
      OutRep w' (Live A T' objs') T' out e ∧ Keep (Mof T mods) w w' ∧ (∀ (k b s : Nat), T.length ≤ k → T'[k]? = some (b, s) → w.heap.size ≤ b ∨ Mof T mods b)

theorem QCalls.mono {f : FuncId} {args : List V} {objs : Objs} {mods : List Nat} {R R' : Out → Objs → Prop} (h : QCalls P f args objs mods R) (hr : ∀ o O, R o O → R' o O) : QCalls P f args objs mods R' :=
  fun w A T vals h1 h2 h3 => (h w A T vals h1 h2 h3).mono fun e w' ⟨out, objs', T', h4, h5⟩ => ⟨out, objs', T', hr _ _ h4, h5⟩

/-- What a function's results are, by content. -/
def ResOK (P : Program) (fn : Func) (σ : St) (v : V) : Prop :=
  ∀ (X : Ctx) (T : Tab) (a : Act) (w : World), HoldsT X T σ a w → ∃ x, (results fn a.tmps).run P w = .ok x w ∧ Rep w (Live X.A T σ.objs) T v x

/-- Another account of the same state. -/
def Gh (σ σ' : St) : Prop := ∀ (X : Ctx) (T : Tab) (a : Act) (w : World), HoldsT X T σ a w → ∃ T', HoldsT X T' σ' a w

theorem Gh.refl (σ : St) : Gh σ σ := fun X T a w h => ⟨T, h⟩
theorem Gh.trans {σ σ' σ'' : St} (h : Gh σ σ') (k : Gh σ' σ'') : Gh σ σ'' := fun X T a w hh => by
  obtain ⟨T', h'⟩ := h X T a w hh
  exact k X T' a w h'

/-- A function's results, and the objects that are kept. -/
def ResG (P : Program) (fn : Func) (σ : St) (v : V) (O : Objs) : Prop :=
  ∀ (X : Ctx) (T : Tab) (a : Act) (w : World), HoldsT X T σ a w → ∃ x T', (results fn a.tmps).run P w = .ok x w ∧ HoldsT X T' ⟨0, [], O, X.T0.length, X.mods⟩ ⟨#[], []⟩ w ∧ Rep w (Live X.A T' O) T' v x

theorem resG_of {fn : Func} {σ σ' : St} {v : V} (h1 : Gh σ σ') (h2 : ResOK P fn σ' v) : ResG P fn σ v σ'.objs := by
  intro X T a w hh
  obtain ⟨T', h3⟩ := h1 X T a w hh
  obtain ⟨x, h4, h5⟩ := h2 X T' a w h3
  exact ⟨x, T', h4, ⟨h3.pre, h3.mem, fun t v hv => by simp [look] at hv, rfl, rfl, h3.keep, h3.fresh, h3.avoid0, rfl, rfl⟩, h5⟩

/-- What is to hold where a body ends. -/
def bodyK (P : Program) (fn : Func) (R : Out → Objs → Prop) : Ex → St → Prop
  | .normal, σ | .ret, σ => ∃ v O, ResG P fn σ v O ∧ R (.ret v) O
  | .panic v, σ => R (.panic v) σ.objs
  | .exit _, _ => False

def number : Nat → List V → List (Nat × V)
  | _, [] => []
  | i, q :: l => (i, q) :: number (i + 1) l

theorem look_number : ∀ (l : List V) (i t : Nat), look (number i l) t = if i ≤ t then l[t - i]? else none
  | [], i, t => by simp [number, look]
  | q :: l, i, t => by
    unfold number look
    split
    · rename_i h
      have := Nat.eq_of_beq_eq_true h
      subst this
      simp
    · rename_i h
      have hne : i ≠ t := fun e => by subst e; simp at h
      rw [look_number l (i + 1) t]
      by_cases g : i + 1 ≤ t
      · rw [if_pos g, if_pos (by omega), show t - i = (t - (i + 1)) + 1 by omega, List.getElem?_cons_succ]
      · rw [if_neg g, if_neg (by omega)]

def initSt (fn : Func) (args : List V) (objs : Objs) (mods : List Nat) : St := ⟨args.length + (fn.ntmps - args.length), number 0 args, objs, objs.length, mods⟩

theorem qcalls_body {f : FuncId} {fn : Func} {c : Code} {args : List V} {objs : Objs} {mods : List Nat} {R : Out → Objs → Prop} (hf : P.funcs[f]? = some fn) (hb : fn.body = some c)
    (h : QC P c (initSt fn args objs mods) (bodyK P fn R)) : QCalls P f args objs mods R := by
  intro w A T vals hm hsize hvals
  refine calls_of_wp hf hb ?_
  have hh : HoldsT ⟨w, A, T, mods⟩ T (initSt fn args objs mods) { tmps := vals ++ Array.replicate (fn.ntmps - vals.size) undef, defers := [] } w := by
    refine ⟨fun _ _ h => h, hm, ?_, by simp [initSt, hsize], rfl, Keep.refl _ _, ?_, hm.avoid, hm.len, rfl⟩
    · intro t v hv
      simp only [initSt, look_number] at hv
      simp at hv
      have := hvals t v hv
      have hlt := lt_of_some hv
      have e : (vals ++ Array.replicate (fn.ntmps - vals.size) undef).getD t undef = vals.getD t undef := by
        rw [Array.getD_eq_getD_getElem?, Array.getD_eq_getD_getElem?, Array.getElem?_append_left (by omega)]
      rw [e]
      exact this
    · intro k b s hk hb
      exact absurd (lt_tab hb) (by simpa using hk)
  refine wp_mono (h _ T _ w hh) ?_
  have fin : ∀ (a' : Act) (w' : World) (T' : Tab) (σ : St), (∃ v O, ResG P fn σ v O ∧ R (.ret v) O) → HoldsT ⟨w, A, T, mods⟩ T' σ a' w' →
      a'.defers = [] ∧ ∃ v, (results fn a'.tmps).run P w' = .ok v w' ∧ ∃ out objs' T', R out objs' ∧ (∀ (k : Nat) (p : Nat × Nat), T[k]? = some p → T'[k]? = some p) ∧ HoldsM w' A T' objs' ∧
      OutRep w' (Live A T' objs') T' out (.returned v) ∧ Keep (Mof T mods) w w' ∧ (∀ (k b s : Nat), T.length ≤ k → T'[k]? = some (b, s) → w.heap.size ≤ b ∨ Mof T mods b) := by
    rintro a' w' T' σ ⟨v, O, h1, h3⟩ h4
    obtain ⟨x, T2, h6, h5, h7⟩ := h1 _ _ _ _ h4
    exact ⟨h4.defers, x, h6, .ret v, O, T2, h3, h5.pre, h5.mem, h7, h5.keep, h5.fresh⟩
  intro e a' w' hp
  cases e with
  | normal => obtain ⟨T', σ', h1, h2⟩ := hp; exact fin a' w' T' σ' h1 h2
  | ret => obtain ⟨T', σ', h1, h2⟩ := hp; exact fin a' w' T' σ' h1 h2
  | exit id => obtain ⟨T', σ', h1, h2⟩ := hp; exact h1.elim
  | panic c =>
    obtain ⟨h0, T', O, v, x, h1, h2, h3, h4⟩ := hp
    exact ⟨h0, .panic v, O, T', h2, h4.pre, h4.mem, ⟨x, h1, h3⟩, h4.keep, h4.fresh⟩
  | goto l => exact hp.elim
  | outgrown => exact hp.elim

theorem res_tmp {fn : Func} {σ : St} {t : Nat} {v : V} (hr : fn.results = #[.tmp t]) (hv : look σ.tmps t = some v) : ResOK P fn σ v := by
  intro X T a w h
  exact ⟨a.tmps.getD t undef, by simp [results, hr], h.tmp t v hv⟩

theorem res_none {fn : Func} {σ : St} (hr : fn.results = #[]) : ResOK P fn σ (.tup []) := by
  intro X T a w h
  exact ⟨.tuple #[], by simp [results, hr], .tup [] #[] rfl (fun i q hq => by simp at hq)⟩

/-! ### A call -/

/-- What is known of a function's entry. -/
theorem enters {g : FuncId} {fn : Func} (hf : P.funcs[g]? = some fn) (hb : fn.body.isNone = false) (hn : (fn.name == "runtime.NumGoroutine") = false) (args : Array Value) (w : World) :
    (callFunc g args).run P w = .ok (.enter g args) w := by
  simp only [callFunc, Sem.run_bind, run_program, Result.andThen, hf]
  rw [if_neg (by rw [hn]; simp), if_neg (by rw [hb]; simp)]
  rfl

/-- The callee's numbers by the caller's. -/
def emb (g : List Nat) (n : Nat) (i : Nat) : Nat := if i < g.length then g.getD i 0 else n + (i - g.length)

/-- The caller's objects behind a call that was handed those of g. -/
def setAll (f : Ob → Ob) : Objs → List Nat → Objs → Objs
  | O, k :: g, o :: os => setAll f (O.set k (o.map f)) g os
  | O, _, _ => O

def backObjs (O : Objs) (g : List Nat) (O' : Objs) : Objs := setAll (Ob.map (emb g O.length)) O g O' ++ (O'.drop g.length).map (Option.map (Ob.map (emb g O.length)))

theorem setAll_length (f : Ob → Ob) : ∀ (g : List Nat) (O O' : Objs), (setAll f O g O').length = O.length
  | [], O, O' => by cases O' <;> rfl
  | k :: g, O, [] => rfl
  | k :: g, O, o :: os => by rw [setAll, setAll_length f g]; simp

theorem setAll_other (f : Ob → Ob) : ∀ (g : List Nat) (O O' : Objs) (j : Nat), j ∉ g → (setAll f O g O')[j]? = O[j]?
  | [], O, O', j, _ => by cases O' <;> rfl
  | k :: g, O, [], j, _ => rfl
  | k :: g, O, o :: os, j, h => by
    simp at h
    rw [setAll, setAll_other f g _ _ j h.2, List.getElem?_set_ne (Ne.symm h.1)]

theorem setAll_at (f : Ob → Ob) : ∀ (g : List Nat) (O O' : Objs) (i j : Nat), g.Nodup → g[i]? = some j → j < O.length → i < O'.length → (setAll f O g O')[j]? = (O'[i]?).map (Option.map f)
  | [], O, O', i, j, _, h, _, _ => by simp at h
  | k :: g, O, [], i, j, _, _, _, h => by simp at h
  | k :: g, O, o :: os, i, j, hn, h, hj, hi => by
    rw [setAll]
    have hn' := List.nodup_cons.mp hn
    cases i with
    | zero =>
      simp at h
      subst h
      rw [setAll_other f g _ _ k hn'.1]
      simp [hj]
    | succ i =>
      simp at h
      rw [setAll_at f g _ _ i j hn'.2 h (by simpa using hj) (by simpa using hi)]
      simp

end Go.Proofs.Ytohchoelhnipmaa.Q
