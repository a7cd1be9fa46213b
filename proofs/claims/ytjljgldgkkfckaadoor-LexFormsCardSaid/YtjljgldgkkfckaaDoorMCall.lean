/- Calls: what is asked of a function, its body, its call; what is done at its end. -/
import Derived.Test.YtjljgldgkkfckaaDoorMMake
import Derived.Recover
namespace Go.Proofs.YtjljgldgkkfckaaDoor.M
open Go Go.RowKit
set_option linter.unusedSimpArgs false
set_option linter.unusedVariables false

variable {ρ : Nat → Value} {P : Program} {σ : St} {K : Ex → St → Prop}

inductive Out where
  | ret (v : V)
  | panic (v : V)

def OutRep (ρ : Nat → Value) (w : World) (L : Nat → Prop) (T : Tab) : Out → Ending → Prop
  | .ret v, .returned x => Rep ρ w L T v x
  | .panic v, .panicked chain => ∃ x, chain = [{ v := x, recovered := false }] ∧ Rep ρ w L T v x
  | _, _ => False

/-- What a call does to the state of things. -/
structure Went (ρ : Nat → Value) (A : Nat → Prop) (forb : CellP) (T : Tab) (objs : Objs) (w : World) (T' : Tab) (objs' : Objs) (next' : Nat) (w' : World) : Prop where
  ext : ∀ (k : Nat) (p : Pl), T k = some p → T' k = some p
  mem : HoldsM ρ w' A T' objs'
  top : ∀ k, next' ≤ k → T' k = none ∧ objs' k = none
  fresh : ∀ (k : Nat) (p : Pl), T k = none → T' k = some p → w.heap.size ≤ p.b ∨ LiveO T objs p.b
  old : ∀ k, T k ≠ none → objs' k ≠ none → objs k ≠ none
  stay : ∀ k r c, forb k r c → objs k ≠ none → objs' k ≠ none
  keep : Keep (LiveO T objs) w w'
  cells : SameC T objs forb w w'

theorem Went.live {A : Nat → Prop} {forb : CellP} {T T' : Tab} {objs objs' : Objs} {next' : Nat} {w w' : World} (h : Went ρ A forb T objs w T' objs' next' w') (b : Nat) (hb : b < w.heap.size) (hl : LiveO T' objs' b) : LiveO T objs b := by
  obtain ⟨k, ob, p, h1, h2, h3⟩ := hl
  cases hT : T k with
  | none =>
    rcases h.fresh k p hT h2 with g | ⟨j, x, q, g2, g3, g4⟩
    · omega
    · exact ⟨j, x, q, g2, g3, g4.trans h3⟩
  | some q =>
    have h4 := h.ext k q hT
    rw [h2] at h4
    cases h4
    have h5 := h.old k (by rw [hT]; simp) (by rw [h1]; simp)
    cases ho : objs k with
    | none => exact (h5 ho).elim
    | some x => exact ⟨k, x, p, ho, hT, h3⟩

theorem Went.rep {A : Nat → Prop} {forb : CellP} {T T' : Tab} {objs objs' : Objs} {next' : Nat} {w w' : World} (h : Went ρ A forb T objs w T' objs' next' w') (q : V) (v : Value) (hr : Rep ρ w (Live A T objs) T q v) : Rep ρ w' (Live A T' objs') T' q v :=
  hr.later h.keep.size (fun b hb hn => h.keep.block b hb fun g => hn (.inr g)) (fun b hb hn hl => hn (hl.imp id (h.live b hb))) h.keep.shape h.ext

/-- What a call of a function does: handed args, and the objects there are, of which it writes none of forb. -/
def QCalls (ρ : Nat → Value) (P : Program) (f : FuncId) (args : List V) (objs : Objs) (next : Nat) (forb : CellP) (R : Out → Objs → Nat → Prop) : Prop :=
  ∀ (w : World) (A : Nat → Prop) (T : Tab) (vals : Array Value), HoldsM ρ w A T objs → (∀ k, next ≤ k → T k = none ∧ objs k = none) → vals.size = args.length →
    (∀ (i : Nat) (q : V), args[i]? = some q → Rep ρ w (Live A T objs) T q (vals.getD i undef)) →
    Calls P f vals w fun e w' => ∃ out objs' next' T', R out objs' next' ∧ Went ρ A forb T objs w T' objs' next' w' ∧ OutRep ρ w' (Live A T' objs') T' out e

theorem QCalls.mono {f : FuncId} {args : List V} {objs : Objs} {next : Nat} {forb : CellP} {R R' : Out → Objs → Nat → Prop} (h : QCalls ρ P f args objs next forb R) (hr : ∀ o O n, R o O n → R' o O n) : QCalls ρ P f args objs next forb R' :=
  fun w A T vals h1 h2 h3 h4 => (h w A T vals h1 h2 h3 h4).mono fun e w' ⟨out, objs', next', T', h4, h5⟩ => ⟨out, objs', next', T', hr _ _ _ h4, h5⟩

/-- Behind a call. -/
theorem HoldsT.went {X : Ctx} {T T' : Tab} {a : Act} {w w' : World} {forb : CellP} {objs' : Objs} {next' : Nat} (h : HoldsT ρ X T σ a w) (hf : ∀ k r c, σ.forb k r c → forb k r c) (hw : Went ρ X.A forb T σ.objs w T' objs' next' w') :
    HoldsT ρ X T' { σ with objs := objs', next := next' } a w' := by
  have hM : ∀ b, LiveO T σ.objs b → X.w0.heap.size ≤ b ∨ X.M b := by
    rintro b ⟨k, ob, p, h2, h3, rfl⟩
    cases hx : X.T0 k with
    | none => exact h.fresh k p hx h3
    | some q =>
      have h4 := h.pre k q hx
      rw [h3] at h4
      cases h4
      have h5 := h.old k (by rw [hx]; simp) (by rw [h2]; simp)
      cases ho : X.objs0 k with
      | none => exact (h5 ho).elim
      | some z => exact .inr ⟨k, z, p, ho, hx, rfl⟩
  refine ⟨fun k p hk => hw.ext k p (h.pre k p hk), hw.mem, hw.top, fun t => hw.rep _ _ (h.tmp t), h.size, h.defers.map hw.rep, ?_, ?_, ?_, fun k r c h1 h2 => hw.stay k r c (hf k r c (by rw [← h.hforb]; exact h1)) (h.stay k r c h1 h2),
    h.pc.trans' (fun k r c h1 => hf k r c (by rw [← h.hforb]; exact h1)) h.stay h.pre hw.cells, h.hforb, h.hks⟩
  · have k1 := h.keep
    have k2 := hw.keep
    refine ⟨k2.os.trans k1.os, k2.tape.trans k1.tape, k2.output.trans k1.output, Nat.le_trans k1.size k2.size, fun b hb hn => ?_, fun b C t fr hb => ?_⟩
    · rw [k2.block b (Nat.lt_of_lt_of_le hb k1.size) (fun hm => by
        rcases hM b hm with g | g
        · omega
        · exact hn g)]
      exact k1.block b hb hn
    · obtain ⟨C1, f1, g1, g2⟩ := k1.shape b C t fr hb
      obtain ⟨C2, f2, g3, g4⟩ := k2.shape b C1 t f1 g1
      exact ⟨C2, f2, g3, g4.trans g2⟩
  · intro k p hk hp
    cases hT : T k with
    | none =>
      rcases hw.fresh k p hT hp with g | g
      · exact .inl (Nat.le_trans h.keep.size g)
      · exact hM _ g
    | some q =>
      have h4 := hw.ext k q hT
      rw [hp] at h4
      cases h4
      exact h.fresh k p hk hT
  · intro k h1 h2
    cases hx : X.T0 k with
    | none => exact (h1 hx).elim
    | some q => exact h.old k h1 (hw.old k (by rw [h.pre k q hx]; simp) h2)

/-! ### A body -/

def initSt (fn : Func) (args : List V) (objs : Objs) (next : Nat) (forb : CellP) (ks : Nat → Bool) : St :=
  ⟨args.length + (fn.ntmps - args.length), fun t => (args[t]?).getD (.sc undef), objs, next, [], forb, ks⟩

theorem init_holds {fn : Func} {args : List V} {objs : Objs} {next : Nat} {forb : CellP} {ks : Nat → Bool} {w : World} {A : Nat → Prop} {T : Tab} {vals : Array Value} (hm : HoldsM ρ w A T objs) (ht : ∀ k, next ≤ k → T k = none ∧ objs k = none) (hs : vals.size = args.length)
    (hv : ∀ (i : Nat) (q : V), args[i]? = some q → Rep ρ w (Live A T objs) T q (vals.getD i undef)) :
    HoldsT ρ ⟨w, A, T, objs, forb, ks⟩ T (initSt fn args objs next forb ks) { tmps := vals ++ Array.replicate (fn.ntmps - vals.size) undef, defers := [] } w := by
  refine ⟨fun _ _ h => h, hm, ht, fun t => ?_, by simp [initSt, hs], trivial, Keep.refl _ _, fun k p h1 h2 => ?_, fun k _ h => h, fun k r c _ h => h, SameC.refl _ _ _ _, rfl, rfl⟩
  · show Rep ρ w _ T ((args[t]?).getD (.sc undef)) _
    cases hq : args[t]? with
    | some q =>
      have hlt := lt_of_get hq
      have e : (vals ++ Array.replicate (fn.ntmps - vals.size) undef).getD t undef = vals.getD t undef := by
        rw [Array.getD_eq_getD_getElem?, Array.getD_eq_getD_getElem?, Array.getElem?_append_left (by omega)]
      rw [e]
      exact hv t q hq
    | none =>
      have hge : args.length ≤ t := by
        rcases Nat.lt_or_ge t args.length with g | g
        · rw [List.getElem?_eq_getElem g] at hq; cases hq
        · exact g
      have e : (vals ++ Array.replicate (fn.ntmps - vals.size) undef).getD t undef = undef := by
        rw [Array.getD_eq_getD_getElem?, Array.getElem?_append_right (by omega)]
        rw [Array.getElem?_replicate]
        split <;> rfl
      rw [e]
      exact .pure (.sc _)
  · have h1 : T k = none := h1
    rw [h1] at h2; cases h2

theorem went_of {X : Ctx} {T : Tab} {a : Act} {w : World} (h : HoldsT ρ X T σ a w) : Went ρ X.A σ.forb X.T0 X.objs0 X.w0 T σ.objs σ.next w := by
  have hf := h.hforb
  refine ⟨h.pre, h.mem, h.top, h.fresh, h.old, fun k r c h1 => h.stay k r c (by rw [hf]; exact h1), h.keep, ?_⟩
  have := h.pc
  rw [hf] at this
  exact this

/-- What a function's results are, by content. -/
def ResOK (ρ : Nat → Value) (P : Program) (fn : Func) (σ : St) (v : V) : Prop :=
  ∀ (X : Ctx) (T : Tab) (a : Act) (w : World), HoldsT ρ X T σ a w → ∃ x, (results fn a.tmps).run P w = .ok x w ∧ Rep ρ w (Live X.A T σ.objs) T v x

/-- What a deferred closure does: u: what was panicked with; whether it is recovered. -/
def QCallsD (ρ : Nat → Value) (P : Program) (f : FuncId) (args : List V) (objs : Objs) (next : Nat) (forb : CellP) (u : Option V) (R : Bool → Objs → Nat → Prop) : Prop :=
  ∀ (w : World) (A : Nat → Prop) (T : Tab) (vals : Array Value) (um : FrameMode) (ux : Value), HoldsM ρ w A T objs → (∀ k, next ≤ k → T k = none ∧ objs k = none) → vals.size = args.length →
    (∀ (i : Nat) (q : V), args[i]? = some q → Rep ρ w (Live A T objs) T q (vals.getD i undef)) →
    (match u with | none => um = .returning | some q => um = .panicking [{ v := ux, recovered := false }] ∧ Rep ρ w (Live A T objs) T q ux) →
    CallsD P f vals um w fun e um' w' => ∃ y, e = .returned y ∧ ∃ rc objs' next' T', R rc objs' next' ∧ Went ρ A forb T objs w T' objs' next' w' ∧ settle um' = (match rc with | true => .returning | false => um)

/-- The end of a function: what was deferred, then the results. -/
def QFin (ρ : Nat → Value) (P : Program) (fn : Func) (R : Out → Objs → Nat → Prop) : List V → Option V → St → Prop
  | [], none, σ => ∃ v, ResOK ρ P fn σ v ∧ R (.ret v) σ.objs σ.next
  | [], some v, σ => R (.panic v) σ.objs σ.next
  | d :: ds, u, σ => ∃ f caps fd, d = .fn f caps ∧ P.funcs[f]? = some fd ∧ fd.body.isNone = false ∧ (fd.name == "runtime.NumGoroutine") = false ∧
    QCallsD ρ P f caps σ.objs σ.next σ.forb u fun rc objs' next' => QFin ρ P fn R ds (match rc with | true => none | false => u) { σ with objs := objs', next := next', defs := ds }

/-- What is known of a function's entry. -/
theorem enters {g : FuncId} {fn : Func} (hf : P.funcs[g]? = some fn) (hb : fn.body.isNone = false) (hn : (fn.name == "runtime.NumGoroutine") = false) (args : Array Value) (w : World) :
    (callFunc g args).run P w = .ok (.enter g args) w := by
  simp only [callFunc, Sem.run_bind, run_program, Result.andThen, hf]
  rw [if_neg (by rw [hn]; simp), if_neg (by rw [hb]; simp)]
  rfl

theorem leaves_of {fn : Func} {R : Out → Objs → Nat → Prop} {X : Ctx} {w0 : World} {A0 : Nat → Prop} {T0 : Tab} {objs0 : Objs} {forb0 : CellP} (hX : X.w0 = w0 ∧ X.A = A0 ∧ X.T0 = T0 ∧ X.objs0 = objs0 ∧ X.forb = forb0) :
    ∀ (ds : List V) (dl : List Deferred) (u : Option V) (um : FrameMode) (ux : Value) (σ : St) (T : Tab) (a : Act) (w : World), σ.defs = ds → a.defers = dl → HoldsT ρ X T σ a w →
      (match u with | none => um = .returning | some q => um = .panicking [{ v := ux, recovered := false }] ∧ Rep ρ w (Live X.A T σ.objs) T q ux) → QFin ρ P fn R ds u σ →
      Leaves P fn a.tmps (fun e w' => ∃ out objs' next' T', R out objs' next' ∧ Went ρ A0 forb0 T0 objs0 w0 T' objs' next' w' ∧ OutRep ρ w' (Live A0 T' objs') T' out e) dl um w := by
  obtain ⟨rfl, rfl, rfl, rfl, rfl⟩ := hX
  intro ds
  induction ds with
  | nil =>
    intro dl u um ux σ T a w hd hdl hh hu hq
    have hdef := hh.defers
    rw [hd, hdl] at hdef
    have : dl = [] := by cases dl with | nil => rfl | cons _ _ => exact hdef.elim
    subst this
    cases u with
    | none =>
      simp only at hu
      subst hu
      obtain ⟨v, h1, h2⟩ := hq
      obtain ⟨x, h3, h4⟩ := h1 X T a w hh
      exact ⟨x, h3, .ret v, σ.objs, σ.next, T, h2, by rw [hh.hforb]; exact went_of hh, h4⟩
    | some q =>
      obtain ⟨rfl, h1⟩ := hu
      exact ⟨.panic q, σ.objs, σ.next, T, hq, by rw [hh.hforb]; exact went_of hh, ux, rfl, h1⟩
  | cons d ds ih =>
    intro dl u um ux σ T a w hd hdl hh hu hq
    have hdef := hh.defers
    rw [hd, hdl] at hdef
    obtain ⟨d', dl, rfl⟩ : ∃ d' dl', dl = d' :: dl' := by cases dl with | nil => exact hdef.elim | cons d' dl => exact ⟨d', dl, rfl⟩
    obtain ⟨⟨f, caps, vs, e1, e2, h3⟩, hdef2⟩ := hdef
    obtain ⟨f', caps', fd, e4, k1, k2, k3, hcall⟩ := hq
    rw [e1] at e4
    injection e4 with e5 e6
    subst e5 e6 e2
    rw [e1] at h3
    obtain ⟨vs', e7, hsz, hreps⟩ := rep_fn h3
    injection e7 with _ _ e8
    subst e8
    have hrun : um ≠ .run := by
      cases u with
      | none => simp only at hu; rw [hu]; simp
      | some q => rw [hu.1]; simp
    refine ⟨hrun, .func f, vs, f, vs, rfl, by simp [invoke, enters k1 k2 k3], ?_⟩
    refine (hcall w X.A T vs um ux hh.mem hh.top hsz hreps hu).mono ?_
    rintro e um' w' ⟨y, rfl, rc, objs', next', T', h5, h6, h7⟩
    have hh' := hh.went (fun k r c h => h) h6
    show Leaves P fn a.tmps _ dl (settle um') w'
    rw [h7]
    -- the list of what is deferred gets shorter
    have hh2 : HoldsT ρ X T' { σ with objs := objs', next := next', defs := ds } { a with defers := dl } w' :=
      ⟨hh'.pre, hh'.mem, hh'.top, hh'.tmp, hh'.size, hdef2.map h6.rep, hh'.keep, hh'.fresh, hh'.old, hh'.stay, hh'.pc, hh'.hforb, hh'.hks⟩
    cases rc with
    | true => exact ih dl none .returning ux _ T' { a with defers := dl } w' rfl rfl hh2 rfl h5
    | false =>
      refine ih dl u um ux _ T' { a with defers := dl } w' rfl rfl hh2 ?_ h5
      cases u with
      | none => exact hu
      | some q => exact ⟨hu.1, h6.rep _ _ hu.2⟩

/-- What is to hold where a body ends. -/
def bodyK (ρ : Nat → Value) (P : Program) (fn : Func) (R : Out → Objs → Nat → Prop) : Ex → St → Prop
  | .normal, σ | .ret, σ => QFin ρ P fn R σ.defs none σ
  | .panic v, σ => QFin ρ P fn R σ.defs (some v) σ.keepS
  | .exit _, _ => False

theorem qcalls_body {f : FuncId} {fn : Func} {c : Code} {args : List V} {objs : Objs} {next : Nat} {forb : CellP} {R : Out → Objs → Nat → Prop} (ks : Nat → Bool) (hf : P.funcs[f]? = some fn) (hb : fn.body = some c)
    (h : QC ρ P c (initSt fn args objs next forb ks) (bodyK ρ P fn R)) : QCalls ρ P f args objs next forb R := by
  intro w A T vals hm ht hsize hvals
  refine calls_of_wp_defers hf hb ?_
  refine wp_mono (h _ T _ w (init_holds hm ht hsize hvals)) ?_
  intro e a' w' hp
  cases e with
  | normal =>
    obtain ⟨T', σ', h1, h2⟩ := hp
    exact leaves_of ⟨rfl, rfl, rfl, rfl, rfl⟩ σ'.defs a'.defers none .returning undef σ' T' a' w' rfl rfl h2 rfl h1
  | ret =>
    obtain ⟨T', σ', h1, h2⟩ := hp
    exact leaves_of ⟨rfl, rfl, rfl, rfl, rfl⟩ σ'.defs a'.defers none .returning undef σ' T' a' w' rfl rfl h2 rfl h1
  | exit id => obtain ⟨T', σ', h1, h2⟩ := hp; exact h1.elim
  | panic ch =>
    obtain ⟨T', σ', v, x, rfl, h1, h2, h3⟩ := hp
    exact leaves_of ⟨rfl, rfl, rfl, rfl, rfl⟩ σ'.defs a'.defers (some v) _ x σ'.keepS T' a' w' rfl rfl h3 ⟨rfl, h2⟩ h1
  | goto l => exact hp.elim
  | outgrown => exact hp.elim

/-! ### A deferred closure that recovers first of all -/

/-- What recover yields. -/
def recV : Option V → V
  | none => .sc .nilIface
  | some q => q

def bodyKD (R : Objs → Nat → Prop) : Ex → St → Prop
  | .normal, σ | .ret, σ => σ.defs = [] ∧ R σ.objs σ.next
  | _, _ => False

theorem qcallsD_body {f : FuncId} {fn : Func} {id : Nat} {o : Oper} {rest : Code} {d : Nat} {args : List V} {objs : Objs} {next : Nat} {forb : CellP} {u : Option V} {R : Bool → Objs → Nat → Prop}
    (hf : P.funcs[f]? = some fn) (hb : fn.body = some (.seq (.region id #[o] false) rest)) (ho : o.op = .call { callee := .builtin .recover, args := #[], argTypes := #[] }) (hg : o.guard = none) (hdst : o.dst = some d)
    (hd : d < args.length + (fn.ntmps - args.length)) (hres : fn.results = #[])
    (h : QC ρ P rest ((initSt fn args objs next forb fun _ => false).put (some d) (recV u)) (bodyKD (R u.isSome))) : QCallsD ρ P f args objs next forb u R := by
  intro w A T vals um ux hm ht hsize hvals hu
  refine callsD_of_wpS hf hb fun c₀ cs hc₀ => wpS_seq (wpS_region ?_)
  have hh := init_holds (fn := fn) (forb := forb) (ks := fun _ => false) hm ht hsize hvals
  have hrun : (execOp ({ tmps := vals ++ Array.replicate (fn.ntmps - vals.size) undef, defers := [] } : Act).eval o).run P w = .ok .recover w := by
    simp [execOp, ho, resolve, invoke, builtin]
  have hwant : Region.wanted o (yielded #[o] (vals ++ Array.replicate (fn.ntmps - vals.size) undef)) = true := by simp [Region.wanted, hg]
  have hrange : List.range (#[o] : Array Oper).size = [0] := rfl
  rw [hrange]
  simp only [wpOpsS, List.getElem?_toArray, List.getElem?_cons_zero, hwant, if_true, hrun]
  have fin : ∀ (c₁ : Frame) (x : Value) (um' : FrameMode), Rep ρ w (Live A T objs) T (recV u) x → c₁ = { c₀ with mode := um' } → settle um' = (match u.isSome with | true => .returning | false => um) →
      Exit.thenS (rest.wpS P (bodyPostS P fn c₀ cs fun e um' w' => ∃ y, e = .returned y ∧ ∃ rc objs' next' T', R rc objs' next' ∧ Went ρ A forb T objs w T' objs' next' w' ∧ settle um' = (match rc with | true => .returning | false => um)))
        (bodyPostS P fn c₀ cs fun e um' w' => ∃ y, e = .returned y ∧ ∃ rc objs' next' T', R rc objs' next' ∧ Went ρ A forb T objs w T' objs' next' w' ∧ settle um' = (match rc with | true => .returning | false => um))
        .normal (({ tmps := vals ++ Array.replicate (fn.ntmps - vals.size) undef, defers := [] } : Act).put o.dst x) (c₁ :: cs) w := by
    intro c₁ x um' hx hc₁ hset
    have hp := hh.put (d := some d) hx (fun t ht => by cases ht; exact hd)
    rw [hdst]
    refine wpS_of_wp (wp_mono (h _ T _ w hp) ?_)
    have fin2 : ∀ (a' : Act) (w' : World), (∃ T' σ', (σ'.defs = [] ∧ R u.isSome σ'.objs σ'.next) ∧ HoldsT ρ ⟨w, A, T, objs, forb, fun _ => false⟩ T' σ' a' w') →
        a'.defers = [] ∧ ∃ um', c₁ :: cs = { c₀ with mode := um' } :: cs ∧ ∃ v, (results fn a'.tmps).run P w' = .ok v w' ∧ ∃ y, Ending.returned v = .returned y ∧ ∃ rc objs' next' T', R rc objs' next' ∧ Went ρ A forb T objs w T' objs' next' w' ∧ settle um' = (match rc with | true => .returning | false => um) := by
      rintro a' w' ⟨T', σ', ⟨e1, h1⟩, h2⟩
      have hdd := h2.defers
      rw [e1] at hdd
      have hda : a'.defers = [] := by
        cases hx : a'.defers with
        | nil => rfl
        | cons y l => rw [hx] at hdd; exact hdd.elim
      refine ⟨hda, um', by rw [hc₁], .tuple #[], by simp [results, hres], .tuple #[], rfl, u.isSome, σ'.objs, σ'.next, T', h1, ?_, hset⟩
      have := went_of h2
      rw [← h2.hforb] at this
      exact this
    intro e a' w' hp'
    cases e with
    | normal => exact fin2 a' w' hp'
    | ret => exact fin2 a' w' hp'
    | exit id => obtain ⟨T', σ', h1, h2⟩ := hp'; exact h1.elim
    | panic ch => obtain ⟨T', σ', v, x, _, h1, _⟩ := hp'; exact h1.elim
    | goto l => exact hp'.elim
    | outgrown => exact hp'.elim
  cases u with
  | none =>
    simp only at hu
    have hc : c₀.mode = .returning := by rw [hc₀, hu]
    have hrec : recoverD (c₀ :: cs) = none := by simp [recoverD, hc]
    rw [hrec]
    exact fin c₀ .nilIface .returning (.pure (.sc _)) (by cases c₀; simp only at hc; subst hc; rfl) (by rw [hu]; rfl)
  | some q =>
    obtain ⟨h1, h2⟩ := hu
    have hc : c₀.mode = .panicking [{ v := ux, recovered := false }] := by rw [hc₀, h1]
    have hrec : recoverD (c₀ :: cs) = some (ux, { c₀ with mode := .panicking [{ v := ux, recovered := true }] } :: cs) := by simp [recoverD, hc]
    rw [hrec]
    exact fin _ ux (.panicking [{ v := ux, recovered := true }]) h2 rfl rfl

/-! ### A call -/

theorem qo_call {C : CellP} {o : Oper} {f : Operand} {args : Array Operand} {ats : Array TypeId} {fid : FuncId} {fn : Func} {caps : List V} {R : Out → Objs → Nat → Prop} {N : St → Prop}
    (ho : o.op = .call { callee := .value f, args := args, argTypes := ats }) (hf : evalV σ f = .fn fid caps)
    (hfn : P.funcs[fid]? = some fn) (hb : fn.body.isNone = false) (hn : (fn.name == "runtime.NumGoroutine") = false)
    (hc : QCalls ρ P fid (evalL σ args.toList ++ caps) σ.objs σ.next (fun k r c => σ.forb k r c ∨ C k r c) R) (hd : dstOK o σ)
    (hret : ∀ v objs' next', R (.ret v) objs' next' → N (({ σ with objs := objs', next := next' } : St).put o.dst v))
    (hpanic : ∀ v objs' next', R (.panic v) objs' next' → K (.panic v) { σ with objs := objs', next := next' }) : QO ρ P C o σ N K := by
  intro X T a w hh
  obtain ⟨vs, e1, hvs, hcap⟩ := rep_fn (ev_rep hh hf)
  have hrun : (execOp a.eval o).run P w = .ok (.enter fid (args.map a.eval ++ vs)) w := by
    simp [execOp, ho, resolve, e1, Deferred.ofValue, invoke, enters hfn hb hn]
  unfold Oper.wp
  rw [hrun]
  have hsz : (args.map a.eval ++ vs).size = (evalL σ args.toList ++ caps).length := by simp [evalL_eq, hvs]
  refine (hc w X.A T _ hh.mem hh.top hsz fun i q hq => ?_).mono ?_
  · rw [Array.getD_eq_getD_getElem?]
    rcases Nat.lt_or_ge i args.size with g | g
    · rw [Array.getElem?_append_left (by simpa using g)]
      rw [List.getElem?_append_left (by simpa [evalL_eq] using g), evalL_eq, List.getElem?_map, Array.getElem?_toList, Array.getElem?_eq_getElem g] at hq
      simp only [Option.map_some, Option.some.injEq] at hq
      subst hq
      have : (args.map a.eval)[i]? = some (a.eval args[i]) := by simp [g]
      rw [this]
      exact eval_rep hh _
    · rw [Array.getElem?_append_right (by simpa using g)]
      rw [List.getElem?_append_right (by simpa [evalL_eq] using g)] at hq
      have e2 : (evalL σ args.toList).length = args.size := by simp [evalL_eq]
      rw [e2] at hq
      have := hcap _ q hq
      rw [Array.getD_eq_getD_getElem?] at this
      simpa using this
  · rintro e w' ⟨out, objs', next', T', h1, h2, h3⟩
    have hh' := hh.went (fun k r c h => .inl h) h2
    cases e with
    | returned x =>
      cases out with
      | panic v => exact h3.elim
      | ret v =>
        refine ⟨T', _, hret v objs' next' h1, hh'.put h3 hd, ?_⟩
        rw [put_objs]
        refine ⟨⟨h2.keep.size, fun b hb hn => h2.keep.block b hb hn⟩, fun k r c p g1 g2 g3 g4 => h2.cells k r c p (.inr g1) g2 g3 g4, h2.ext, fun k r c hk => h2.stay k r c (.inr hk), h2.live, fun k p hk hb => ?_⟩
        cases hT : T k with
        | none =>
          rcases h2.fresh k p hT hk with g | ⟨j, x, q, _, g3, g4⟩
          · omega
          · exact ⟨j, q, g3, g4⟩
        | some q =>
          have h4 := h2.ext k q hT
          rw [hk] at h4
          cases h4
          exact ⟨k, p, hT, rfl⟩
    | panicked chain =>
      cases out with
      | ret v => exact h3.elim
      | panic v =>
        obtain ⟨x, h4, h5⟩ := h3
        exact ⟨T', _, v, x, h4, hpanic v objs' next' h1, h5, hh'.keepS⟩
    | outgrown => cases out <;> exact h3.elim

/-- A panic. -/
theorem qo_panic {C : CellP} {o : Oper} {x : Operand} {t : TypeId} {q : V} {N : St → Prop} (ho : o.op = .panic x) (hx : evalV σ x = .ifc t q) (h : K (.panic (.ifc t q)) σ) : QO ρ P C o σ N K := by
  intro X T a w hh
  have hr := ev_rep hh hx
  obtain ⟨v, e, hv⟩ := rep_ifc hr
  have hrun : (execOp a.eval o).run P w = .halt (.panic (.iface t v)) w := by
    simp [execOp, ho, Instr.panic, e, goPanic, Sem.run, Result.andThen]
  unfold Oper.wp
  rw [hrun]
  rw [e] at hr
  exact ⟨T, σ, _, _, rfl, h, hr, hh.keepS⟩

/-- What is to be done at the end. -/
theorem qo_defer {C : CellP} {o : Oper} {f : Operand} {ats : Array TypeId} {fid : FuncId} {caps : List V} {N : St → Prop} (ho : o.op = .defer { callee := .value f, args := #[], argTypes := ats }) (hf : evalV σ f = .fn fid caps) (hd : dstOK o σ)
    (h : N (({ σ with defs := .fn fid caps :: σ.defs } : St).put o.dst (.sc undef))) : QO ρ P C o σ N K := by
  intro X T a w hh
  have hr := ev_rep hh hf
  obtain ⟨vs, e1, hvs, hcap⟩ := rep_fn hr
  have hrun : (execOp a.eval o).run P w = .ok (.defer ⟨.fn (.func fid) vs, #[]⟩) w := by
    simp [execOp, ho, resolve, e1, Deferred.ofValue]
  unfold Oper.wp
  rw [hrun]
  have hh2 : HoldsT ρ X T { σ with defs := .fn fid caps :: σ.defs } { a with defers := ⟨.fn (.func fid) vs, #[]⟩ :: a.defers } w :=
    ⟨hh.pre, hh.mem, hh.top, hh.tmp, hh.size, ⟨⟨fid, caps, vs, rfl, rfl, by rw [← e1]; exact hr⟩, hh.defers⟩, hh.keep, hh.fresh, hh.old, hh.stay, hh.pc, hh.hforb, hh.hks⟩
  refine ⟨T, _, h, hh2.put (.pure (.sc _)) hd, ?_⟩
  rw [put_objs]
  exact StepT.refl _ _ _ _

/-! ### Results -/

/-- One result. -/
def resRun (tmps : Array Value) (rv : ResultVar) : Sem Value := match rv with
  | .tmp t => pure (tmps.getD t undef)
  | .cell b t => do loadVar t (← asAddr (tmps.getD b undef))

theorem results_eq (fn : Func) (tmps : Array Value) : results fn tmps = (do
    let vs ← fn.results.mapM (resRun tmps)
    pure (if h : vs.size = 1 then vs[0] else .tuple vs)) := rfl

/-- A result's variable, by content: a slot, or what lies in a cell. -/
inductive ResAt (ρ : Nat → Value) (P : Program) (σ : St) : ResultVar → V → Prop
  | tmp (t : Nat) : ResAt ρ P σ (.tmp t) (σ.tmps t)
  | cell (t : Nat) (ty : TypeId) (v : V) (h : QQ ρ P σ (fun _ _ _ => True) { dst := none, op := .load ty (.tmp t), type := ty, pos := "", after := #[], guard := none } v) : ResAt ρ P σ (.cell t ty) v

theorem resAt_run {rv : ResultVar} {v : V} (h : ResAt ρ P σ rv v) {X : Ctx} {T : Tab} {a : Act} {w : World} (hh : HoldsT ρ X T σ a w) :
    ∃ x, (resRun a.tmps rv).run P w = .ok x w ∧ Rep ρ w (Live X.A T σ.objs) T v x := by
  cases h with
  | tmp t => exact ⟨_, rfl, hh.tmp t⟩
  | cell t ty v h =>
    obtain ⟨x, h1, h2⟩ := h X T a w hh
    have h3 := h2 w (Stab.refl _ _) (SameC.refl _ _ _ _)
    refine ⟨x, ?_, h1⟩
    have e' : a.eval (.tmp t) = a.tmps.getD t undef := rfl
    simp only [execOp, Instr.loadAt, e'] at h3
    cases hv : a.tmps.getD t undef with
    | pointer ad =>
      cases ad with
      | none => rw [hv] at h3; simp [Instr.sureAddr, Sem.run, stuck, Result.andThen] at h3
      | some ad =>
        rw [hv] at h3
        simp only [Instr.sureAddr, Sem.run_bind, Sem.run_pure, Result.andThen] at h3
        simp only [resRun, hv, asAddr, Sem.run_bind, Sem.run_pure, Result.andThen]
        revert h3
        cases h4 : (loadVar ty ad).run P w with
        | ok y w1 =>
          intro h3
          simp at h3
          obtain ⟨e1, e2⟩ := h3
          subst e1 e2
          rfl
        | halt y w1 => intro h3; simp at h3
    | _ => rw [hv] at h3; simp [Instr.sureAddr, Sem.run, stuck, Result.andThen] at h3

theorem res_list {rs : List ResultVar} {l : List V} (hl : l.length = rs.length) (h : ∀ (i : Nat) (rv : ResultVar) (v : V), rs[i]? = some rv → l[i]? = some v → ResAt ρ P σ rv v) {X : Ctx} {T : Tab} {a : Act} {w : World} (hh : HoldsT ρ X T σ a w) :
    ∃ xs : List Value, (rs.mapM (resRun a.tmps)).run P w = .ok xs w ∧ xs.length = l.length ∧
      ∀ (i : Nat) (v : V), l[i]? = some v → ∃ x, xs[i]? = some x ∧ Rep ρ w (Live X.A T σ.objs) T v x := by
  induction rs generalizing l with
  | nil =>
    have : l = [] := List.eq_nil_of_length_eq_zero hl
    subst this
    exact ⟨[], by simp, rfl, fun i v hv => by simp at hv⟩
  | cons rv rs ih =>
    obtain ⟨v, l, rfl⟩ : ∃ v l', l = v :: l' := by cases l with | nil => simp at hl | cons v l => exact ⟨v, l, rfl⟩
    obtain ⟨x, h1, h2⟩ := resAt_run (h 0 rv v rfl rfl) hh
    obtain ⟨xs, h3, h4, h5⟩ := ih (l := l) (by simpa using hl) (fun i rv v hr hv => h (i + 1) rv v (by simpa using hr) (by simpa using hv))
    refine ⟨x :: xs, ?_, by simp [h4], fun i q hq => ?_⟩
    · rw [List.mapM_cons]
      simp only [Sem.run_bind, h1, Result.andThen, h3, Sem.run_pure]
    · cases i with
      | zero => simp at hq; subst hq; exact ⟨x, rfl, h2⟩
      | succ i => simp at hq; obtain ⟨y, h6, h7⟩ := h5 i q hq; exact ⟨y, by simpa using h6, h7⟩

/-- One result is what it is, several ones are a tuple. -/
def resV : List V → V
  | [q] => q
  | l => .tup l

theorem res_ok {fn : Func} {l : List V} (hl : l.length = fn.results.toList.length) (h : ∀ (i : Nat) (rv : ResultVar) (v : V), fn.results.toList[i]? = some rv → l[i]? = some v → ResAt ρ P σ rv v) : ResOK ρ P fn σ (resV l) := by
  intro X T a w hh
  obtain ⟨xs, h1, h2, h3⟩ := res_list hl h hh
  have h4 : (fn.results.mapM (resRun a.tmps)).run P w = .ok xs.toArray w := by
    rw [← Array.toList_mapM] at h1
    simp only [Sem.run_map] at h1
    revert h1
    generalize (Array.mapM (resRun a.tmps) fn.results).run P w = r
    cases r with
    | ok ys w' =>
      intro h1
      simp at h1
      obtain ⟨e1, e2⟩ := h1
      subst e1 e2
      simp
    | halt x w' => intro h1; simp at h1
  rw [results_eq]
  simp only [Sem.run_bind, h4, Result.andThen, Sem.run_pure]
  by_cases h5 : l.length = 1
  · obtain ⟨q, rfl⟩ : ∃ q, l = [q] := List.length_eq_one_iff.mp h5
    obtain ⟨x, h6, h7⟩ := h3 0 q rfl
    obtain ⟨y, rfl⟩ : ∃ y, xs = [y] := List.length_eq_one_iff.mp (by rw [h2]; rfl)
    simp at h6
    subst h6
    refine ⟨y, ?_, h7⟩
    rw [dif_pos (by simp)]
    rfl
  · have h6 : ¬ xs.toArray.size = 1 := by simp [h2, h5]
    rw [dif_neg h6]
    have e : resV l = .tup l := by
      unfold resV
      split
      · simp at h5
      · rfl
    rw [e]
    refine ⟨_, rfl, .tup l _ (by simp [h2]) fun i q hq => ?_⟩
    obtain ⟨x, h7, h8⟩ := h3 i q hq
    rw [getD_of (by simpa using h7)]
    exact h8

end Go.Proofs.YtjljgldgkkfckaaDoor.M
