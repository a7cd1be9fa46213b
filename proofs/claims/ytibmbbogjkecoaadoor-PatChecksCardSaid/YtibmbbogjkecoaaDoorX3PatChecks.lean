/- Texts of this claim, one behind the other. -/
import Derived.Test.YtibmbbogjkecoaaDoorX2PatChecks
import Derived.ReadAgain
import Derived.ChangeReads
import Derived.ChangeOld
import Derived.ChangeBears
import Derived.Below
import Derived.WideShapes
import Derived.Test.YtibmbbogjkecoaaDoorProg
import Derived.KernelRfl
/- Code and functions, as the kernel runs them. -/
namespace Go.Proofs.YtibmbbogjkecoaaDoor.M
open Go Go.RowKit
set_option linter.unusedSimpArgs false
set_option linter.unusedVariables false

variable {ρ : Nat → Value} {P : Program}

/-- What is known of all functions: the plans of regions whose order is drawn, slots that outlive a panic. -/
structure Gl where
  pl : FuncId → Nat → List Plan
  ks : FuncId → List Nat
  lm : Bool := false

structure Cd where
  run : Env → K3 → Tm → Hp → Nat → Ans

noncomputable def roundsK (c : Env → K3 → Tm → Hp → Nat → Ans) (E : Env) (n : Nat) : K3 := Nat.rec (motive := fun _ => K3) (fun _ _ _ => .err 90) (fun _ ih tm hp nx => c E ih tm hp nx) n

@[irreducible] def rounds0 : Nat := 18446744073709551616

noncomputable def comp (P : Program) (pl : Nat → List Plan) (c : Code) : Cd :=
  Code.rec (motive := fun _ => Cd)
    (⟨fun _ k tm hp nx => k tm hp nx⟩)
    (fun id ops draw => match draw with
      | false => ⟨fun E k tm hp nx => (chain P ops ops.toList 0).run E [] tm hp nx k⟩
      | true => ⟨fun E k tm hp nx => (dchain P ops (pl id)).run E [] tm hp nx k⟩)
    (fun _ _ iha ihb => ⟨fun E k tm hp nx => iha.run E (fun tm hp nx => ihb.run E k tm hp nx) tm hp nx⟩)
    (fun c _ _ iha ihb => ⟨fun E k tm hp nx => (opd c).get tm fun v => v.onBool fun b => boolK b (iha.run E k tm hp nx) (ihb.run E k tm hp nx)⟩)
    (fun id _ ih => ⟨fun E k tm hp nx => ih.run ⟨E.call, E.forb, fun j => Bool.rec (E.kx j) k (Nat.beq j id), E.kr, E.kp, E.lm⟩ k tm hp nx⟩)
    (fun _ ih => ⟨fun E _ tm hp nx => roundsK ih.run E rounds0 tm hp nx⟩)
    (fun _ _ _ _ _ _ => ⟨fun _ _ _ _ _ => .err 91⟩)
    (fun id => ⟨fun E _ tm hp nx => E.kx id tm hp nx⟩)
    (fun _ _ => ⟨fun _ _ _ _ _ => .err 92⟩)
    (fun _ => ⟨fun _ _ _ _ _ => .err 93⟩)
    (fun _ => ⟨fun _ _ _ _ _ => .err 94⟩)
    ⟨fun E _ tm hp nx => E.kr tm hp nx⟩
    (fun _ => ⟨fun _ _ _ _ _ => .err 95⟩)
    c

def dstB (n : Nat) (o : Oper) : Bool := match o.dst with
  | some t => Nat.ble (Nat.succ t) n
  | none => true

/-- Are all slots there, all plans such as may be followed? -/
def okC (n : Nat) (ks : List Nat) (pl : Nat → List Plan) : Code → Bool
  | .region id ops false => ops.toList.all (dstB n)
  | .region id ops true => ops.toList.all (dstB n) && Region.noSelect ops && chk ops (isLoud (pl id)) n ks ops.size (Array.replicate ops.size false) (pl id)
  | .seq a b => okC n ks pl a && okC n ks pl b
  | .cond _ a b => okC n ks pl a && okC n ks pl b
  | .block _ c => okC n ks pl c
  | .loop c => okC n ks pl c
  | _ => true

theorem dsts_of {n : Nat} {fr : Fr} (hn : n ≤ fr.n) {l : List Oper} (h : l.all (dstB n) = true) : ∀ o ∈ l, ∀ t, o.dst = some t → t < fr.n := by
  intro o ho t ht
  rw [List.all_eq_true] at h
  have := h o ho
  unfold dstB at this
  rw [ht] at this
  exact Nat.lt_of_lt_of_le (Nat.le_of_ble_eq_true this) hn

theorem closed_start (ops : Array Oper) (n : Nat) : Closed ops (Array.replicate n false) := by
  intro j o hj
  simp [Array.getD_eq_getD_getElem?, Array.getElem?_replicate] at hj
  split at hj <;> simp at hj

theorem comp_sound (hm : P.follows .mixedOrders = true) {pl : Nat → List Plan} {fr : Fr} {n : Nat} (hn : n ≤ fr.n) : ∀ (c : Code) (E : Env) (k : K3) (tm : Tm) (hp : Hp) (nx : Nat), okC n fr.ks pl c = true → E.forb = fr.forb → CallOK ρ P E.call →
    (comp P pl c).run E k tm hp nx = .ok → QC ρ P c (absS fr tm hp nx) (KE fr E k) := by
  intro c
  induction c with
  | skip => exact fun E k tm hp nx _ _ _ h => q_skip (nk_of h)
  | region id ops draw =>
    intro E k tm hp nx hok hf hc h
    cases draw with
    | false => exact q_region (chain_sound hf hc ops.toList 0 [] tm hp nx (dsts_of hn hok) h)
    | true =>
      have hok : (ops.toList.all (dstB n) && Region.noSelect ops && chk ops (isLoud (pl id)) n fr.ks ops.size (Array.replicate ops.size false) (pl id)) = true := hok
      simp only [Bool.and_eq_true] at hok
      exact q_region_draw hm (dchain_sound hok.1.2 hn hf hc (pl id) _ _ [] tm hp nx hok.2 (closed_start _ _) (fun x hx => by cases hx) h)
  | seq a b iha ihb =>
    intro E k tm hp nx hok hf hc h
    have hok : (okC n fr.ks pl a && okC n fr.ks pl b) = true := hok
    simp only [Bool.and_eq_true] at hok
    refine q_seq ((iha E _ tm hp nx hok.1 hf hc h).mono fun e σ he => ?_)
    cases e with
    | normal =>
      obtain ⟨tm', hp', nx', rfl, h⟩ := he
      exact ihb E k _ _ _ hok.2 hf hc h
    | _ => exact he
  | cond c a b iha ihb =>
    intro E k tm hp nx hok hf hc h
    have hok : (okC n fr.ks pl a && okC n fr.ks pl b) = true := hok
    simp only [Bool.and_eq_true] at hok
    obtain ⟨t, h1, h⟩ := V.onBool_inv (opd_inv (k := fun v => v.onBool fun b' => boolK b' ((comp P pl a).run E k tm hp nx) ((comp P pl b).run E k tm hp nx)) h fr hp nx)
    refine q_cond h1 ?_
    rcases boolK_inv h with ⟨rfl, h⟩ | ⟨rfl, h⟩
    · exact iha E k _ _ _ hok.1 hf hc h
    · exact ihb E k _ _ _ hok.2 hf hc h
  | block id c ih =>
    intro E k tm hp nx hok hf hc h
    refine q_block ((ih _ k tm hp nx hok (by exact hf) (by exact hc) h).mono fun e σ he => ?_)
    cases e with
    | exit j =>
      obtain ⟨tm', hp', nx', rfl, h⟩ := he
      have h : (Bool.rec (E.kx j) k (Nat.beq j id) : K3) tm' hp' nx' = .ok := h
      cases e : Nat.beq j id with
      | true => rw [e] at h; simp only [blockK, e]; exact nk_of (k := k) h
      | false => rw [e] at h; simp only [blockK, e]; exact nk_of (k := E.kx j) h
    | normal => exact he
    | ret => exact he
    | panic v => exact he
  | loop c ih =>
    intro E k tm hp nx hok hf hc h
    have main : ∀ (m : Nat) (tm : Tm) (hp : Hp) (nx : Nat), roundsK (comp P pl c).run E m tm hp nx = .ok → QR ρ P c (KE fr E k) m (absS fr tm hp nx) := by
      intro m
      induction m with
      | zero => exact fun _ _ _ h => Ans.no h
      | succ m ihm =>
        intro tm hp nx h
        refine (ih E (roundsK (comp P pl c).run E m) tm hp nx hok hf hc h).mono fun e σ he => ?_
        cases e with
        | normal =>
          obtain ⟨tm', hp', nx', rfl, h⟩ := he
          exact ihm _ _ _ h
        | _ => exact he
    exact q_rounds rounds0 (main rounds0 tm hp nx h)
  | rangeFunc f ps a b _ _ => exact fun E k tm hp nx _ _ _ h => Ans.no h
  | exit id => exact fun E k tm hp nx _ _ _ h => q_exit ⟨tm, hp, nx, rfl, h⟩
  | scope c _ => exact fun E k tm hp nx _ _ _ h => Ans.no h
  | label l => exact fun E k tm hp nx _ _ _ h => Ans.no h
  | goto l => exact fun E k tm hp nx _ _ _ h => Ans.no h
  | ret => exact fun E k tm hp nx _ _ _ h => q_ret ⟨tm, hp, nx, rfl, h⟩
  | refuse w => exact fun E k tm hp nx _ _ _ h => Ans.no h

/-! ### Results -/

theorem QQ.more {σ : St} {C C' : CellP} {o : Oper} {v : V} (h : QQ ρ P σ C o v) (hc : ∀ k r c, C k r c → C' k r c) : QQ ρ P σ C' o v := by
  intro X T a w hh
  obtain ⟨x, h1, h2⟩ := h X T a w hh
  exact ⟨x, h1, fun w' hw hsm => h2 w' hw (hsm.mono hc)⟩

structure Rs where
  run : Tm → Hp → (List V → Ans) → Ans
noncomputable def rs (P : Program) (l : List ResultVar) : Rs := List.rec (motive := fun _ => Rs) ⟨fun _ _ k => k []⟩ (fun r _ ih => match r with
  | .tmp t => ⟨fun tm hp k => (opd (.tmp t)).get tm fun v => ih.run tm hp fun l => k (v :: l)⟩
  | .cell t ty => ⟨fun tm hp k => (qLoad P 0 ty (.tmp t)).run tm hp [] fun v _ => ih.run tm hp fun l => k (v :: l)⟩) l

theorem rs_inv {fr : Fr} {tm : Tm} {hp : Hp} {nx : Nat} : ∀ {l : List ResultVar} {k : List V → Ans}, (rs P l).run tm hp k = .ok → ∃ vs, vs.length = l.length ∧ (∀ (i : Nat) (rv : ResultVar) (v : V), l[i]? = some rv → vs[i]? = some v → ResAt ρ P (absS fr tm hp nx) rv v) ∧ k vs = .ok
  | [], k, h => ⟨[], rfl, fun i rv v h => by simp at h, h⟩
  | r :: l, k, h => by
    have step : ∃ v, ResAt ρ P (absS fr tm hp nx) r v ∧ ((rs P l).run tm hp fun l => k (v :: l)) = .ok := by
      cases r with
      | tmp t =>
        have h := opd_inv (x := .tmp t) (k := fun v => (rs P l).run tm hp fun l => k (v :: l)) h fr hp nx
        exact ⟨_, .tmp t, h⟩
      | cell t ty =>
        have hq : QSpec ρ P 0 { dst := none, op := .load ty (.tmp t), type := ty, pos := "", after := #[], guard := none } (qLoad P 0 ty (.tmp t)) := qLoad_spec rfl
        obtain ⟨v, ids, h1, h2⟩ := hq fr tm hp nx [] (fun v _ => (rs P l).run tm hp fun l => k (v :: l)) h
        exact ⟨v, .cell t ty v (h2.more fun _ _ _ _ => trivial), h1⟩
    obtain ⟨v, h1, h⟩ := step
    obtain ⟨vs, h2, h3, h⟩ := rs_inv (l := l) h
    refine ⟨v :: vs, by simp [h2], fun i rv q hi hq => ?_, h⟩
    cases i with
    | zero =>
      simp at hi hq
      subst hi hq
      exact h1
    | succ i => exact h3 i rv q (by simpa using hi) (by simpa using hq)

/-- One result as it is, several as a tuple. -/
noncomputable def resK (l : List V) (k : V → Ans) : Ans := List.rec (motive := fun _ => AnsT) (k (.tup l)) (fun q t _ => List.rec (motive := fun _ => AnsT) (k q) (fun _ _ _ => k (.tup l)) t) l
theorem resK_inv {l : List V} {k : V → Ans} (h : resK l k = .ok) : k (resV l) = .ok := by
  cases l with
  | nil => exact h
  | cons q t =>
    cases t with
    | nil => exact h
    | cons _ _ => exact h

/-! ### Arguments -/

noncomputable def argsK (l : List V) : Nat → Tm → (Tm → Ans) → Ans :=
  List.rec (motive := fun _ => Nat → Tm → (Tm → Ans) → Ans) (fun _ tm k => k tm) (fun v _ ih i tm k => (updD (some i)).run tm v fun tm' => ih (Nat.succ i) tm' k) l
def tm0 : Tm := N16.all (N16.all .un)

theorem argsK_inv : ∀ {l : List V} {i : Nat} {tm : Tm} {k : Tm → Ans}, argsK l i tm k = .ok → ∃ tm', k tm' = .ok ∧ absD tm' = absD tm ∧ ∀ t, absT tm' t = if i ≤ t ∧ t < i + l.length then (l[t - i]?).getD .un else absT tm t
  | [], i, tm, k, h => ⟨tm, h, rfl, fun t => by rw [if_neg (by simp)]⟩
  | v :: l, i, tm, k, h => by
    obtain ⟨tm1, h, h1⟩ := updD_inv h
    obtain ⟨tm', h, h2, h3⟩ := argsK_inv (l := l) (i := i + 1) h
    have e := h1 ⟨0, [], []⟩ (N16.all (N16.all (N16.all (N16.all .no)))) 0
    have eT : absT tm1 = fun u => if u = i then v else absT tm u := (congrArg St.tmps e).symm
    have eD : absD tm1 = absD tm := (congrArg St.defs e).symm
    refine ⟨tm', h, h2.trans eD, fun t => ?_⟩
    rw [h3, eT]
    simp only [List.length_cons]
    by_cases e : t = i
    · subst e
      rw [if_neg (by omega), if_pos rfl, if_pos (by omega)]
      simp
    · rw [if_neg e]
      by_cases e2 : i + 1 ≤ t ∧ t < i + 1 + l.length
      · rw [if_pos e2, if_pos (by omega)]
        obtain ⟨m, hm⟩ : ∃ m, t - i = m + 1 := ⟨t - i - 1, by omega⟩
        rw [hm, show t - (i + 1) = m by omega]
        simp
      · rw [if_neg e2, if_neg (by omega)]

theorem absT_tm0 (t : Nat) : absT tm0 t = .un := by
  unfold absT tm0 get2
  rw [N16.get_all, N16.get_all]
  split <;> rfl
theorem absD_tm0 : absD tm0 = [] := rfl

theorem QC.less {c : Code} {σ : St} {f : Nat → V} {K : Ex → St → Prop} (h : QC ρ P c { σ with tmps := f } K) (hf : ∀ t, f t = σ.tmps t ∨ f t = .un) : QC ρ P c σ K :=
  fun X T a w hh => h X T a w (hh.less f hf)

/-- From arguments into slots. -/
theorem qc_init {c : Code} {fn : Func} {args : List V} {forb : List PC} {ks : List Nat} {tm : Tm} {hp : Hp} {nx : Nat} {K : Ex → St → Prop} (hD : absD tm = []) (hT : ∀ t, absT tm t = if 0 ≤ t ∧ t < 0 + args.length then (args[t - 0]?).getD .un else absT tm0 t)
    (h : QC ρ P c (absS ⟨args.length + (fn.ntmps - args.length), forb, ks⟩ tm hp nx) K) : QC ρ P c (initSt fn args (absO hp) nx (inL forb) (fun t => ks.contains t)) K := by
  have e : absS ⟨args.length + (fn.ntmps - args.length), forb, ks⟩ tm hp nx = { initSt fn args (absO hp) nx (inL forb) (fun t => ks.contains t) with tmps := absT tm } := by
    unfold absS initSt
    rw [hD]
    rfl
  rw [e] at h
  refine h.less fun t => ?_
  rw [hT t]
  by_cases g : t < args.length
  · rw [if_pos (by omega)]
    left
    show (args[t - 0]?).getD .un = (args[t]?).getD (.sc undef)
    rw [Nat.sub_zero, List.getElem?_eq_getElem g]
    rfl
  · rw [if_neg (by omega), absT_tm0]
    exact .inr rfl

end Go.Proofs.YtibmbbogjkecoaaDoor.M

/- Functions, their ends, as the kernel runs them. -/
namespace Go.Proofs.YtibmbbogjkecoaaDoor.M
open Go Go.RowKit
set_option linter.unusedSimpArgs false
set_option linter.unusedVariables false

variable {ρ : Nat → Value} {P : Program}

/-- What is to be checked of all functions, once. -/
def GOK' (P : Program) (G : Gl) : Prop := ∀ (f : FuncId) (fn : Func) (c : Code), P.funcs[f]? = some fn → fn.body = some c → okC fn.ntmps (G.ks f) (G.pl f) c = true

def okF (P : Program) (G : Gl) (f : FuncId) : Bool := match P.funcs[f]? with
  | some fn => match fn.body with
    | some c => okC fn.ntmps (G.ks f) (G.pl f) c
    | none => true
  | none => true

theorem gok_of {G : Gl} (h : (List.range P.funcs.size).all (okF P G) = true) : GOK' P G := by
  intro f fn c hf hb
  rw [List.all_eq_true] at h
  have := h f (List.mem_range.mpr (getElem?_lt hf))
  unfold okF at this
  rw [hf] at this
  simp only [hb] at this
  exact this

/-! ### Deferred closures -/

structure Dc where
  run : CallT → List V → List PC → Option V → Hp → Nat → (Bool → Hp → Nat → Ans) → Ans

noncomputable def someB (u : Option V) : Bool := Option.rec false (fun _ => true) u
noncomputable def dEnd (k : Hp → Nat → Ans) : K3 := fun tm hp nx => (acc2 V 255).get tm fun v => v.onDefs (k hp nx) (fun _ => .err 97)

noncomputable def dcl (P : Program) (G : Gl) (f : FuncId) : Dc := match P.funcs[f]? with
  | some fn => match fn.body with
    | some (.seq (.region id ops false) rest) => match ops.toList, fn.results.toList, G.ks f with
      | [o], [], [] => match o.op, o.guard, o.dst with
        | .call c, none, some d => match c.callee, c.args.toList, c.argTypes.toList, Nat.ble (Nat.succ d) fn.ntmps with
          | .builtin .recover, [], [], true => ⟨fun call caps forb u hp nx k => argsK caps 0 tm0 fun tm => (updD (some d)).run tm (Option.rec (.sc .nilIface) (fun q => q) u) fun tm =>
              (comp P (G.pl f) rest).run ⟨call, forb, fun _ _ _ _ => .err 98, dEnd (k (someB u)), fun _ _ _ _ => .err 98, G.lm⟩ (dEnd (k (someB u))) tm hp nx⟩
          | _, _, _, _ => ⟨fun _ _ _ _ _ _ _ => .err 99⟩
        | _, _, _ => ⟨fun _ _ _ _ _ _ _ => .err 99⟩
      | _, _, _ => ⟨fun _ _ _ _ _ _ _ => .err 99⟩
    | _ => ⟨fun _ _ _ _ _ _ _ => .err 99⟩
  | none => ⟨fun _ _ _ _ _ _ _ => .err 99⟩

theorem QCallsD.mono {f : FuncId} {args : List V} {objs : Objs} {next : Nat} {forb : CellP} {u : Option V} {R R' : Bool → Objs → Nat → Prop} (h : QCallsD ρ P f args objs next forb u R) (hr : ∀ b O n, R b O n → R' b O n) : QCallsD ρ P f args objs next forb u R' :=
  fun w A T vals um ux h1 h2 h3 h4 h5 => (h w A T vals um ux h1 h2 h3 h4 h5).mono fun e um' w' ⟨y, g1, rc, O, n, T', g2, g3⟩ => ⟨y, g1, rc, O, n, T', hr _ _ _ g2, g3⟩

theorem dEnd_inv {k : Hp → Nat → Ans} {fr : Fr} {σ : St} (h : NK fr (dEnd k) σ) : σ.defs = [] ∧ ∃ hp, σ.objs = absO hp ∧ k hp σ.next = .ok := by
  obtain ⟨tm, hp, nx, rfl, h⟩ := h
  obtain ⟨_, h⟩ := acc2_get h
  rcases V.onDefs_inv h with ⟨l, _, h⟩ | ⟨h1, h⟩
  · exact Ans.no h
  · refine ⟨?_, hp, rfl, h⟩
    show absD tm = []
    unfold absD
    split
    · rename_i l hl; exact (h1 l hl).elim
    · rfl

theorem dcl_sound (hm : P.follows .mixedOrders = true) {G : Gl} (hG : GOK' P G) {f : FuncId} {call : CallT} (hc : CallOK ρ P call) {caps : List V} {forb : List PC} {u : Option V} {hp : Hp} {nx : Nat} {k : Bool → Hp → Nat → Ans}
    (h : (dcl P G f).run call caps forb u hp nx k = .ok) : QCallsD ρ P f caps (absO hp) nx (inL forb) u (fun rc O n => ∃ hp', O = absO hp' ∧ k rc hp' n = .ok) := by
  unfold dcl at h
  split at h
  · rename_i fn hfn
    split at h
    · rename_i id ops rest hb
      split at h
      · rename_i o ho hres hks
        split at h
        · rename_i c d hop hg hdst
          split at h
          · rename_i hcal hargs hats hd
            have hok := hG f fn _ hfn hb
            have hok : (ops.toList.all (dstB fn.ntmps) && okC fn.ntmps (G.ks f) (G.pl f) rest) = true := hok
            simp only [Bool.and_eq_true] at hok
            obtain ⟨tm1, h, h1, h2⟩ := argsK_inv h
            obtain ⟨tm2, h, h3⟩ := updD_inv h
            have hd : d < fn.ntmps := Nat.le_of_ble_eq_true hd
            have hop' : o.op = .call { callee := .builtin .recover, args := #[], argTypes := #[] } := by
              rw [hop]
              obtain ⟨c1, c2, c3⟩ := c
              simp only at hcal hargs hats
              rw [hcal, arr_of hargs, arr_of hats]
            have hops : ops = #[o] := arr_of ho
            rw [hops] at hb
            refine (qcallsD_body (R := fun rc O n => ∃ hp', O = absO hp' ∧ k rc hp' n = .ok) hfn hb hop' hg hdst (Nat.lt_of_lt_of_le hd (by omega)) (arr_of hres) ?_)
            have hn : fn.ntmps ≤ (⟨caps.length + (fn.ntmps - caps.length), forb, []⟩ : Fr).n := by show fn.ntmps ≤ caps.length + (fn.ntmps - caps.length); omega
            rw [hks] at hok
            have hq := comp_sound (ρ := ρ) hm (fr := ⟨caps.length + (fn.ntmps - caps.length), forb, []⟩) hn rest _ _ tm2 hp nx hok.2 rfl hc h
            rw [← h3] at hq
            have eu : (Option.rec (.sc .nilIface) (fun q => q) u : V) = recV u := by cases u <;> rfl
            have es : someB u = u.isSome := by cases u <;> rfl
            rw [eu] at hq
            have hq2 := hq.mono (K' := bodyKD (fun O n => ∃ hp', O = absO hp' ∧ k u.isSome hp' n = .ok)) (fun e σ he => by
              rw [es] at he
              cases e with
              | normal => exact dEnd_inv he
              | ret => exact dEnd_inv he
              | exit id => obtain ⟨_, _, _, _, h⟩ := he; exact Ans.no h
              | panic v => obtain ⟨_, _, _, _, h⟩ := he; exact Ans.no h)
            have e : ((initSt fn caps (absO hp) nx (inL forb) fun _ => false).put (some d) (recV u)) = { (absS ⟨caps.length + (fn.ntmps - caps.length), forb, []⟩ tm1 hp nx).put (some d) (recV u) with tmps := ((initSt fn caps (absO hp) nx (inL forb) fun _ => false).put (some d) (recV u)).tmps } := by
              unfold absS initSt St.put
              simp only
              rw [h1, absD_tm0]
              rfl
            intro X T a w hh
            have hl := hh.less ((absS ⟨caps.length + (fn.ntmps - caps.length), forb, []⟩ tm1 hp nx).put (some d) (recV u)).tmps (fun t => by
              show (if t = d then recV u else absT tm1 t) = (if t = d then recV u else (caps[t]?).getD (.sc undef)) ∨ (if t = d then recV u else absT tm1 t) = V.un
              by_cases g : t = d
              · rw [if_pos g, if_pos g]; exact .inl rfl
              · rw [if_neg g, if_neg g, h2 t]
                by_cases g2 : t < caps.length
                · rw [if_pos (by omega)]
                  left
                  rw [Nat.sub_zero, List.getElem?_eq_getElem g2]
                  rfl
                · rw [if_neg (by omega), absT_tm0]
                  exact .inr rfl)
            have e2 : ({ (initSt fn caps (absO hp) nx (inL forb) fun _ => false).put (some d) (recV u) with tmps := ((absS ⟨caps.length + (fn.ntmps - caps.length), forb, []⟩ tm1 hp nx).put (some d) (recV u)).tmps } : St) = (absS ⟨caps.length + (fn.ntmps - caps.length), forb, []⟩ tm1 hp nx).put (some d) (recV u) := by
              rw [e]
            rw [e2] at hl
            exact hq2 X T a w hl
          · exact Ans.no h
        · exact Ans.no h
      · exact Ans.no h
    · exact Ans.no h
  · exact Ans.no h

/-! ### Ends -/

noncomputable def finK (P : Program) (G : Gl) (res : Rs) (call : CallT) (forb : List PC) (kr kp : V → Hp → Nat → Ans) (ds : List V) : Option V → K3 :=
  List.rec (motive := fun _ => Option V → K3)
    (fun u tm hp nx => Option.rec (res.run tm hp fun l => resK l fun v => kr v hp nx) (fun v => kp v hp nx) u)
    (fun d ds ih u tm hp nx => d.onFn fun f caps => must (fnOK P f) ((dcl P G f).run call caps forb u hp nx fun rc hp' nx' => (acc2 V 255).upd tm (.tup ds) fun tm' => ih (Bool.rec u none rc) tm' hp' nx')) ds

theorem finK_sound (hm : P.follows .mixedOrders = true) {G : Gl} (hG : GOK' P G) {fn : Func} {call : CallT} (hc : CallOK ρ P call) {fr : Fr} {kr kp : V → Hp → Nat → Ans} : ∀ (ds : List V) (u : Option V) (tm : Tm) (hp : Hp) (nx : Nat), absD tm = ds →
    finK P G (rs P fn.results.toList) call fr.forb kr kp ds u tm hp nx = .ok → QFin ρ P fn (RK kr kp) ds u (absS fr tm hp nx)
  | [], none, tm, hp, nx, hD, h => by
    obtain ⟨vs, h1, h2, h⟩ := rs_inv (ρ := ρ) (fr := fr) (nx := nx) h
    exact ⟨resV vs, res_ok h1 h2, hp, rfl, resK_inv h⟩
  | [], some v, tm, hp, nx, hD, h => ⟨hp, rfl, h⟩
  | d :: ds, u, tm, hp, nx, hD, h => by
    obtain ⟨f, caps, rfl, h⟩ := V.onFn_inv h
    obtain ⟨h1, h⟩ := must_inv h
    obtain ⟨fd, h2, h3, h4⟩ := fnOK_ok h1
    refine ⟨f, caps, fd, rfl, h2, h3, h4, (dcl_sound hm hG hc h).mono fun rc O n hr => ?_⟩
    obtain ⟨hp', rfl, h⟩ := hr
    obtain ⟨_, h⟩ := acc2_upd h
    have e : ({ absS fr tm hp nx with objs := absO hp', next := n, defs := ds } : St) = absS fr (put2 tm 255 (.tup ds)) hp' n := by
      unfold absS
      have e1 : absT (put2 tm 255 (.tup ds)) = absT tm := by
        funext t
        unfold absT
        by_cases e : t < 255
        · rw [if_pos e, if_pos e, get_put2 _ _ _ _ (by omega) (by omega), if_neg (by omega)]
        · rw [if_neg e, if_neg e]
      have e2 : absD (put2 tm 255 (.tup ds)) = ds := by
        unfold absD
        rw [get_put2 _ _ _ _ (by omega) (by omega), if_pos rfl]
      rw [e1, e2]
    rw [e]
    have hD2 : absD (put2 tm 255 (.tup ds)) = ds := by
      unfold absD
      rw [get_put2 _ _ _ _ (by omega) (by omega), if_pos rfl]
    cases rc with
    | true => exact finK_sound hm hG hc ds none _ _ _ hD2 h
    | false => exact finK_sound hm hG hc ds u _ _ _ hD2 h

noncomputable def endK (P : Program) (G : Gl) (res : Rs) (call : CallT) (forb : List PC) (kr kp : V → Hp → Nat → Ans) (u : Option V) : K3 :=
  fun tm hp nx => (acc2 V 255).get tm fun v => v.onDefs (finK P G res call forb kr kp [] u tm hp nx) (fun l => finK P G res call forb kr kp l u tm hp nx)
theorem endK_sound (hm : P.follows .mixedOrders = true) {G : Gl} (hG : GOK' P G) {fn : Func} {call : CallT} (hc : CallOK ρ P call) {fr : Fr} {kr kp : V → Hp → Nat → Ans} {u : Option V} {tm : Tm} {hp : Hp} {nx : Nat}
    (h : endK P G (rs P fn.results.toList) call fr.forb kr kp u tm hp nx = .ok) : QFin ρ P fn (RK kr kp) (absS fr tm hp nx).defs u (absS fr tm hp nx) := by
  obtain ⟨_, h⟩ := acc2_get h
  rcases V.onDefs_inv h with ⟨l, h1, h⟩ | ⟨h1, h⟩
  · have : absD tm = l := by unfold absD; rw [h1]
    show QFin ρ P fn (RK kr kp) (absD tm) u _
    rw [this]
    exact finK_sound hm hG hc l u tm hp nx this h
  · have : absD tm = [] := by
      unfold absD
      split
      · rename_i l hl; exact (h1 l hl).elim
      · rfl
    show QFin ρ P fn (RK kr kp) (absD tm) u _
    rw [this]
    exact finK_sound hm hG hc [] u tm hp nx this h

/-- What outlives a panic. -/
noncomputable def keepL (l : List Nat) (tm : Tm) : Tm → (Tm → Ans) → Ans :=
  List.rec (motive := fun _ => Tm → (Tm → Ans) → Ans) (fun tm1 k => k tm1) (fun t _ ih tm1 k => (opd (.tmp t)).get tm fun v => (updD (some t)).run tm1 v fun tm2 => ih tm2 k) l
theorem keepL_inv {tm : Tm} : ∀ {l : List Nat} {tm1 : Tm} {k : Tm → Ans}, keepL l tm tm1 k = .ok → ∃ tm', k tm' = .ok ∧ absD tm' = absD tm1 ∧ ∀ t, absT tm' t = if t ∈ l then absT tm t else absT tm1 t
  | [], tm1, k, h => ⟨tm1, h, rfl, fun t => by simp⟩
  | s :: l, tm1, k, h => by
    have h := opd_inv (x := .tmp s) (k := fun v => (updD (some s)).run tm1 v fun tm2 => keepL l tm tm2 k) h ⟨0, [], []⟩ (N16.all (N16.all (N16.all (N16.all .no)))) 0
    obtain ⟨tm2, h, h1⟩ := updD_inv h
    obtain ⟨tm', h, h2, h3⟩ := keepL_inv (l := l) h
    have e := h1 ⟨0, [], []⟩ (N16.all (N16.all (N16.all (N16.all .no)))) 0
    have eT : absT tm2 = fun u => if u = s then absT tm s else absT tm1 u := (congrArg St.tmps e).symm
    have eD : absD tm2 = absD tm1 := (congrArg St.defs e).symm
    refine ⟨tm', h, h2.trans eD, fun t => ?_⟩
    rw [h3, eT]
    simp only [List.mem_cons]
    by_cases g : t ∈ l
    · rw [if_pos g, if_pos (.inr g)]
    · rw [if_neg g]
      by_cases g2 : t = s
      · subst g2
        rw [if_pos rfl, if_pos (.inl rfl)]
      · rw [if_neg g2, if_neg (by rintro (x | x); exact g2 x; exact g x)]

noncomputable def keepT (ks : List Nat) (tm : Tm) (k : Tm → Ans) : Ans := (acc2 V 255).get tm fun d => (acc2 V 255).upd tm0 d fun tm1 => keepL ks tm tm1 k
theorem keepT_inv {fr : Fr} {tm : Tm} {k : Tm → Ans} (h : keepT fr.ks tm k = .ok) (hp : Hp) (nx : Nat) : ∃ tm', k tm' = .ok ∧ absS fr tm' hp nx = (absS fr tm hp nx).keepS := by
  obtain ⟨_, h⟩ := acc2_get h
  obtain ⟨_, h⟩ := acc2_upd h
  obtain ⟨tm', h, h1, h2⟩ := keepL_inv h
  refine ⟨tm', h, ?_⟩
  have eD : absD tm' = absD tm := by
    rw [h1]
    unfold absD
    rw [get_put2 _ _ _ _ (by omega) (by omega), if_pos rfl]
  have eT : absT tm' = fun t => match fr.kept t with | true => absT tm t | false => .un := by
    funext t
    rw [h2 t]
    have e0 : absT (put2 tm0 255 (get2 tm 255)) t = .un := by
      unfold absT
      by_cases g : t < 255
      · rw [if_pos g, get_put2 _ _ _ _ (by omega) (by omega), if_neg (by omega)]
        unfold tm0 get2
        rw [N16.get_all, N16.get_all]
      · rw [if_neg g]
    rw [e0]
    cases e : fr.kept t with
    | true =>
      have : t ∈ fr.ks := by unfold Fr.kept at e; simpa using e
      rw [if_pos this]
    | false =>
      have : t ∉ fr.ks := by unfold Fr.kept at e; simpa using e
      rw [if_neg this]
  unfold absS St.keepS
  rw [eD, eT]
  rfl

/-! ### Functions -/

structure Bd where
  run : CallT → List V → List PC → Hp → Nat → (V → Hp → Nat → Ans) → (V → Hp → Nat → Ans) → Ans

noncomputable def bodyE (P : Program) (G : Gl) (res : Rs) (ks : List Nat) (call : CallT) (forb : List PC) (kr kp : V → Hp → Nat → Ans) : Env :=
  ⟨call, forb, fun _ _ _ _ => .err 96, endK P G res call forb kr kp none, fun v tm hp nx => keepT ks tm fun tm' => endK P G res call forb kr kp (some v) tm' hp nx, G.lm⟩

noncomputable def bdy (P : Program) (G : Gl) (f : FuncId) : Bd := match P.funcs[f]? with
  | some fn => match fn.body with
    | some c => ⟨fun call args forb hp nx kr kp => argsK args 0 tm0 fun tm => (comp P (G.pl f) c).run (bodyE P G (rs P fn.results.toList) (G.ks f) call forb kr kp) (endK P G (rs P fn.results.toList) call forb kr kp none) tm hp nx⟩
    | none => ⟨fun _ _ _ _ _ _ _ => .err 100⟩
  | none => ⟨fun _ _ _ _ _ _ _ => .err 100⟩

theorem bdy_sound (hm : P.follows .mixedOrders = true) {G : Gl} (hG : GOK' P G) {f : FuncId} {call : CallT} (hc : CallOK ρ P call) {args : List V} {forb : List PC} {hp : Hp} {nx : Nat} {kr kp : V → Hp → Nat → Ans}
    (h : (bdy P G f).run call args forb hp nx kr kp = .ok) : QCalls ρ P f args (absO hp) nx (inL forb) (RK kr kp) := by
  unfold bdy at h
  split at h
  · rename_i fn hfn
    split at h
    · rename_i c hb
      obtain ⟨tm, h, h1, h2⟩ := argsK_inv h
      have hn : fn.ntmps ≤ (⟨args.length + (fn.ntmps - args.length), forb, G.ks f⟩ : Fr).n := by show fn.ntmps ≤ args.length + (fn.ntmps - args.length); omega
      have hq := comp_sound (ρ := ρ) hm (fr := ⟨args.length + (fn.ntmps - args.length), forb, G.ks f⟩) hn c _ _ tm hp nx (hG f fn c hfn hb) rfl hc h
      refine qcalls_body (fun t => (G.ks f).contains t) hfn hb (qc_init h1 h2 (hq.mono fun e σ he => ?_))
      cases e with
      | normal => obtain ⟨tm', hp', nx', rfl, h⟩ := he; exact endK_sound hm hG hc h
      | ret => obtain ⟨tm', hp', nx', rfl, h⟩ := he; exact endK_sound hm hG hc h
      | exit id => obtain ⟨_, _, _, _, h⟩ := he; exact Ans.no h
      | panic v =>
        obtain ⟨tm', hp', nx', rfl, h⟩ := he
        obtain ⟨tm2, h, h3⟩ := keepT_inv (fr := ⟨args.length + (fn.ntmps - args.length), forb, G.ks f⟩) h hp' nx'
        have := endK_sound (ρ := ρ) (fn := fn) hm hG hc (fr := ⟨args.length + (fn.ntmps - args.length), forb, G.ks f⟩) h
        rw [h3] at this
        exact this
    · exact Ans.no h
  · exact Ans.no h

noncomputable def runF (P : Program) (G : Gl) (n : Nat) : CallT :=
  Nat.rec (motive := fun _ => CallT) (fun _ _ _ _ _ _ _ => .err 81) (fun _ ih f args forb hp nx kr kp => (bdy P G f).run ih args forb hp nx kr kp) n

theorem runF_sound (hm : P.follows .mixedOrders = true) {G : Gl} (hG : GOK' P G) : ∀ n, CallOK ρ P (runF P G n)
  | 0 => fun f args forb hp nx kr kp h => Ans.no h
  | n + 1 => fun f args forb hp nx kr kp h => bdy_sound hm hG (runF_sound hm hG n) h

def hp0 : Hp := N16.all (N16.all (N16.all (N16.all .no)))

/-- A run that ends well. -/
theorem run_sound (hm : P.follows .mixedOrders = true) {G : Gl} (hG : GOK' P G) (n : Nat) {f : FuncId} {args : List V} {kr kp : V → Hp → Nat → Ans} (h : runF P G n f args [] hp0 0 kr kp = .ok) :
    QCalls ρ P f args (absO hp0) 0 (inL []) (RK kr kp) := runF_sound hm hG n f args [] hp0 0 kr kp h

end Go.Proofs.YtibmbbogjkecoaaDoor.M

/- A run in which one function's answer is told. -/
namespace Go.Proofs.YtibmbbogjkecoaaDoor.M
open Go Go.RowKit
set_option linter.unusedSimpArgs false
set_option linter.unusedVariables false

variable {ρ : Nat → Value} {P : Program}

/-- The argument that is whatever it is, and a bound. -/
def argsN (b : Nat) : List V → Bool
  | [.sym 0, .int .i64 (.ofNat c)] => Nat.beq c b
  | _ => false
theorem argsN_ok {b : Nat} {l : List V} (h : argsN b l = true) : l = [.sym 0, .int .i64 (.ofNat b)] := by
  unfold argsN at h
  split at h
  · rw [Nat.eq_of_beq_eq_true h]
  · cases h

/-- Function f0 answers k. -/
noncomputable def withO (f0 : FuncId) (b k : Nat) (c : CallT) : CallT := fun f args forb hp nx kr kp => boolK (Nat.beq f f0) (must (argsN b args) (kr (.int .i64 (.ofNat k)) hp nx)) (c f args forb hp nx kr kp)

noncomputable def runO (P : Program) (G : Gl) (f0 : FuncId) (b k : Nat) (n : Nat) : CallT :=
  Nat.rec (motive := fun _ => CallT) (fun _ _ _ _ _ _ _ => .err 81) (fun _ ih f args forb hp nx kr kp => (bdy P G f).run (withO f0 b k ih) args forb hp nx kr kp) n

/-- What the function truly does. -/
def Told (ρ : Nat → Value) (P : Program) (f0 : FuncId) (b k : Nat) : Prop :=
  ∀ (objs : Objs) (next : Nat) (forb : CellP), QCalls ρ P f0 [.sym 0, .int .i64 (.ofNat b)] objs next forb (fun o O m => o = .ret (.int .i64 (.ofNat k)) ∧ O = objs ∧ m = next)

theorem withO_ok {f0 : FuncId} {b k : Nat} (ht : Told ρ P f0 b k) {c : CallT} (hc : CallOK ρ P c) : CallOK ρ P (withO f0 b k c) := by
  intro f args forb hp nx kr kp h
  rcases boolK_inv h with ⟨h1, h⟩ | ⟨h1, h⟩
  · obtain ⟨h2, h⟩ := must_inv h
    rw [Nat.eq_of_beq_eq_true h1, argsN_ok h2]
    refine (ht (absO hp) nx (inL forb)).mono fun o O m ⟨e1, e2, e3⟩ => ?_
    rw [e1, e2, e3]
    exact ⟨hp, rfl, h⟩
  · exact hc f args forb hp nx kr kp h

theorem runO_ok (hm : P.follows .mixedOrders = true) {G : Gl} (hG : GOK' P G) {f0 : FuncId} {b k : Nat} (ht : Told ρ P f0 b k) : ∀ n, CallOK ρ P (runO P G f0 b k n)
  | 0 => fun f args forb hp nx kr kp h => Ans.no h
  | n + 1 => fun f args forb hp nx kr kp h => bdy_sound hm hG (withO_ok ht (runO_ok hm hG ht n)) h

/-- Asked so, the kernel reckons the run as a whole. -/
noncomputable def isOk (a : Ans) : Bool := Ans.rec true (fun _ => false) a
theorem isOk_ok {a : Ans} (h : isOk a = true) : a = .ok := by
  cases a with
  | ok => rfl
  | err n => cases h

/-- It must be true, or it must not be. -/
noncomputable def sayTrue : V → Hp → Nat → Ans := fun v _ _ => v.onBool fun b => boolK b .ok (.err 200)
noncomputable def sayNo : V → Hp → Nat → Ans := fun _ _ _ => .err 201

theorem runO_true (hm : P.follows .mixedOrders = true) {G : Gl} (hG : GOK' P G) {f0 : FuncId} {b k n : Nat} (ht : Told ρ P f0 b k) {f : FuncId} (h : isOk (runO P G f0 b k n f [.sym 0] [] hp0 0 sayTrue sayNo) = true) :
    QCalls ρ P f [.sym 0] (absO hp0) 0 (inL []) (fun o _ _ => o = .ret (.bool true)) := by
  refine (runO_ok hm hG ht n f [.sym 0] [] hp0 0 sayTrue sayNo (isOk_ok h)).mono fun o O m hr => ?_
  cases o with
  | ret v =>
    obtain ⟨hp, _, h⟩ := hr
    obtain ⟨t, h1, h⟩ := V.onBool_inv h
    rcases boolK_inv h with ⟨rfl, _⟩ | ⟨_, h⟩
    · rw [h1]
    · exact Ans.no h
  | panic v =>
    obtain ⟨hp, _, h⟩ := hr
    exact Ans.no h

theorem absO_hp0 : absO hp0 = fun _ => none := by
  funext k
  unfold absO hp0 get4 get3 get2
  rw [N16.get_all, N16.get_all, N16.get_all, N16.get_all]
  split <;> rfl

end Go.Proofs.YtibmbbogjkecoaaDoor.M

/- The bridge from runs to a row: a law that yields true, whatever it is given. -/
namespace Go.Proofs.YtibmbbogjkecoaaDoor.M
open Go Go.RowKit
set_option linter.unusedSimpArgs false
set_option linter.unusedVariables false

theorem trodAll_carry {H : Type} {enc : TypeId × Value → H} {P : Program} {w w' : World} {base : Nat} {spare : Nat → Bool} {held : Bool} : ∀ {ts : List TypeId} {vs : List Value} {ds : List (DataW H)} {ps : List MemPlace},
    DataW.TrodAll enc P w base spare held ts vs ds ps → (∀ p ∈ ps, w.sameAt w' p) → DataW.TrodAll enc P w' base spare held ts vs ds ps
  | [], [], [], _, h, _ => h
  | _ :: _, _ :: _, _ :: _, _, ⟨p, q, ⟨n, h1⟩, h2, e⟩, hs =>
    ⟨p, q, ⟨n, DataW.trod_carry n _ _ _ h1 (fun x hx => hs x (by rw [e]; exact List.mem_append_left _ hx))⟩, trodAll_carry h2 (fun x hx => hs x (by rw [e]; exact List.mem_append_right _ hx)), e⟩

/-- The arguments read behind the call as they read before. -/
theorem args_again {H : Type} {enc : TypeId × Value → H} {P : Program} {W W' : World} {ts : List TypeId} {vs : List Value} {ds : List (DataW H)} {ps : List MemPlace} (hl : laidOutB P = true) (hm : mapsRowed P = true)
    (hz : ((List.range P.types.size).all fun t => match P.underlying t with | some (.slice e) => decide (0 < P.cellsOf e) | _ => true) = true) (hts : ts.all (fun t => decide (t < P.types.size)) = true)
    (h : DataW.TrodAll enc P W 0 (fun _ => true) true ts vs ds ps) (bel : Below W.heap.size W W') : DataW.TrodAll enc P W' 0 (fun b => decide (b < W.heap.size)) true ts vs ds ps :=
  trodAll_carry (h.respare (kids_rows hl hm) (slices_full_of P hz) (fun t ht => of_decide_eq_true (List.all_eq_true.mp hts t ht)) (fun p hp => decide_eq_true (h.lt p hp))) (fun p hp => bel.same (h.lt p hp))

/-- What is called, by content, from outside: arguments that lie where nobody writes. -/
theorem calls_ret {ρ : Nat → Value} {P : Program} {f : FuncId} {args : List V} {vals : Array Value} {w : World} (hg : Globs w fun _ => False) (hs : vals.size = args.length)
    (hargs : ∀ (i : Nat) (q : V), args[i]? = some q → RepP ρ w (fun _ => False) q (vals.getD i undef))
    (h : QCalls ρ P f args (fun _ => none) 0 (fun _ _ _ => False) (fun o _ _ => o = .ret (.bool true))) :
    Calls P f vals w fun e w' => e = .returned (.bool true) ∧ Below w.heap.size w w' := by
  have hlive : ∀ (b : Nat), ¬ Live (fun _ => False) (fun _ => none) (fun _ => none) b := by
    rintro b (h | ⟨k, ob, p, h1, _⟩)
    · exact h
    · cases h1
  refine (h w (fun _ => False) (fun _ => none) vals ⟨fun _ h => h.elim, fun k p hk => by simp at hk, fun k ob hk => (by cases hk), fun i j x y p q hi => (by cases hi), hg.congr fun b hb => hlive b hb⟩ (fun k _ => ⟨rfl, rfl⟩) hs (fun i q hq => .pure ((hargs i q hq).later (Nat.le_refl _) (fun _ _ _ => rfl) fun b _ _ => hlive b))).mono ?_
  rintro e w' ⟨out, O, n, T', rfl, hw, hr⟩
  cases e with
  | returned x =>
    refine ⟨by rw [rep_bool hr], hw.keep.os, hw.keep.tape, hw.keep.output, hw.keep.size, fun k hk => hw.keep.block k hk fun ⟨_, _, _, h1, _⟩ => by cases h1⟩
  | panicked c => exact hr.elim
  | outgrown => exact hr.elim

/-- The same, of arguments that may be structs. -/
theorem calls_retR {ρ : Nat → Value} {P : Program} {f : FuncId} {args : List V} {vals : Array Value} {w : World} (hg : Globs w fun _ => False) (hs : vals.size = args.length)
    (hargs : ∀ (i : Nat) (q : V), args[i]? = some q → Rep ρ w (fun _ => False) (fun _ => none) q (vals.getD i undef))
    (h : QCalls ρ P f args (fun _ => none) 0 (fun _ _ _ => False) (fun o _ _ => o = .ret (.bool true))) :
    Calls P f vals w fun e w' => e = .returned (.bool true) ∧ Below w.heap.size w w' := by
  have hlive : ∀ (b : Nat), ¬ Live (fun _ => False) (fun _ => none) (fun _ => none) b := by
    rintro b (h | ⟨k, ob, p, h1, _⟩)
    · exact h
    · cases h1
  refine (h w (fun _ => False) (fun _ => none) vals ⟨fun _ h => h.elim, fun k p hk => by simp at hk, fun k ob hk => (by cases hk), fun i j x y p q hi => (by cases hi), hg.congr fun b hb => hlive b hb⟩ (fun k _ => ⟨rfl, rfl⟩) hs (fun i q hq => (hargs i q hq).congr fun b hb => hlive b hb)).mono ?_
  rintro e w' ⟨out, O, n, T', rfl, hw, hr⟩
  cases e with
  | returned x =>
    refine ⟨by rw [rep_bool hr], hw.keep.os, hw.keep.tape, hw.keep.output, hw.keep.size, fun k hk => hw.keep.block k hk fun ⟨_, _, _, h1, _⟩ => by cases h1⟩
  | panicked c => exact hr.elim
  | outgrown => exact hr.elim

theorem inL_nil : inL [] = fun _ _ _ => False := by
  funext k r c
  apply propext
  constructor
  · rintro ⟨e, he, _⟩
    cases he
  · exact False.elim

/-- The same, of one number by its name. -/
theorem calls_true {P : Program} {f : FuncId} {v : Value} {w : World} (hg : Globs w fun _ => False) (hv : v.oneCell' = true) (h : ∀ ρ : Nat → Value, ρ 0 = v → QCalls ρ P f [.sym 0] (absO hp0) 0 (inL []) (fun o _ _ => o = .ret (.bool true))) :
    Calls P f #[v] w fun e w' => e = .returned (.bool true) ∧ Below w.heap.size w w' := by
  have h0 := h (fun _ => v) rfl
  rw [absO_hp0, inL_nil] at h0
  refine calls_ret hg rfl (fun i q hq => ?_) h0
  match i with
  | 0 => simp at hq; subst hq; exact .sym 0 hv
  | i + 1 => simp at hq

/-! ### Rules for a walk by hand -/

section
variable {ρ : Nat → Value} {P : Program} {σ : St} {K : Ex → St → Prop}

theorem q_cond2 {c : Operand} {x y : Code} {t : Bool} (hc : evalV σ c = .bool t) (h1 : t = true → QC ρ P x σ K) (h2 : t = false → QC ρ P y σ K) : QC ρ P (.cond c x y) σ K := by
  refine q_cond hc ?_
  cases t with
  | true => exact h1 rfl
  | false => exact h2 rfl

theorem qs_quiet {ops : Array Oper} {o : Oper} {rest : List Oper} {v : V} (hw : wantV ops σ o = some true) (hq : QQ ρ P σ (fun _ _ _ => False) o v) (hd : dstOK o σ) (h : QS ρ P ops K rest (σ.put o.dst v)) : QS ρ P ops K (o :: rest) σ :=
  qs_by hw (qo_quiet hq hd h)

theorem fin_tmp {fn : Func} {R : Out → Objs → Nat → Prop} {t : Nat} {v : V} (hr : fn.results = #[.tmp t]) (hd : σ.defs = []) (hv : σ.tmps t = v) (h : R (.ret v) σ.objs σ.next) : QFin ρ P fn R σ.defs none σ := by
  rw [hd]
  refine ⟨resV [σ.tmps t], res_ok (by rw [hr]; rfl) (fun i rv q h1 h2 => ?_), ?_⟩
  · rw [hr] at h1
    match i with
    | 0 =>
      simp at h1 h2
      subst h1 h2
      exact .tmp t
    | i + 1 => simp at h1
  · show R (.ret (σ.tmps t)) σ.objs σ.next
    rw [hv]; exact h

end

/-! ### columbarykeep.Within -/

def withinM (v n : Int) : Int := if v.tmod n < 0 then IntKind.wrap .i64 (v.tmod n + n) else v.tmod n

theorem withinM_lt (v : Int) (b : Nat) (hb : 0 < b) (hb2 : b < 1000) : ∃ k, k < b ∧ withinM v (.ofNat b) = .ofNat k := by
  have e : (Int.ofNat b) = (b : Int) := rfl
  have h1 : v.tmod (b : Int) < b := Int.tmod_lt_of_pos _ (by omega)
  have h2 : - (b : Int) < v.tmod b := Int.lt_tmod_of_pos _ (by omega)
  unfold withinM
  rw [e]
  by_cases h : v.tmod (b : Int) < 0
  · rw [if_pos h]
    refine ⟨(v.tmod (b : Int) + b).toNat, by omega, ?_⟩
    have : v.tmod (b : Int) + b = Int.ofNat (v.tmod (b : Int) + b).toNat := by show _ = (((v.tmod (b : Int) + b).toNat : Nat) : Int); omega
    rw [this]
    exact wrap_small (by show _ ≤ 9223372036854775807; omega)
  · rw [if_neg h]
    refine ⟨(v.tmod (b : Int)).toNat, by omega, ?_⟩
    show _ = (((v.tmod (b : Int)).toNat : Nat) : Int)
    omega

/-- A call that is handed a value by its name. -/
theorem told_of {ρ : Nat → Value} {P : Program} {f0 : FuncId} {b k : Nat} {n : Int} (hρ : ρ 0 = .int .i64 n)
    (h : ∀ (objs : Objs) (next : Nat) (forb : CellP), QCalls ρ P f0 [.int .i64 n, .int .i64 (.ofNat b)] objs next forb (fun o O m => o = .ret (.int .i64 (.ofNat k)) ∧ O = objs ∧ m = next)) : Told ρ P f0 b k := by
  intro objs next forb w A T vals h1 h2 h3 h4
  refine h objs next forb w A T vals h1 h2 h3 fun i q hq => ?_
  match i with
  | 0 =>
    simp at hq
    subst hq
    have := h4 0 (.sym 0) rfl
    cases this with
    | pure h =>
      generalize hv : vals.getD 0 undef = z at h
      cases h
      rw [hρ]
      exact .pure (.int _ _)
  | 1 => exact h4 1 q (by simpa using hq)
  | i + 2 => simp at hq

end Go.Proofs.YtibmbbogjkecoaaDoor.M

/- Proofs with unknowns: where the evaluator stands still, and what then; loops; calls that are answered otherwise; what is made afresh, handed back as what nobody writes. -/
namespace Go.Proofs.YtibmbbogjkecoaaDoor.M
open Go Go.RowKit
set_option linter.unusedSimpArgs false
set_option linter.unusedVariables false

variable {ρ : Nat → Value} {P : Program}

/-! ### Where it stands still -/

theorem forceB_ok {b : Bool} {k : Bool → Ans} (h : k b = .ok) : forceB b k = .ok := by rw [forceB_eq]; exact h
theorem forceN_ok {b : Nat} {k : Nat → Ans} (h : k b = .ok) : forceN b k = .ok := by rw [forceN_eq]; exact h
theorem forceZ_ok {b : Int} {k : Int → Ans} (h : k b = .ok) : forceZ b k = .ok := by rw [forceZ_eq]; exact h
theorem valK_ok {v : V} {k : V → Ans} (h : k v = .ok) : valK v k = .ok := h
theorem valK_as {v : V} (v' : V) {k : V → Ans} (e : v = v') (h : k v' = .ok) : valK v k = .ok := by subst e; exact h
/-- A number, said otherwise. -/
theorem forceZ_as {b : Int} (c : Int) {k : Int → Ans} (e : b = c) (h : k c = .ok) : forceZ b k = .ok := by rw [forceZ_eq, e]; exact h
theorem forceN_as {b : Nat} (c : Nat) {k : Nat → Ans} (e : b = c) (h : k c = .ok) : forceN b k = .ok := by rw [forceN_eq, e]; exact h

theorem br_true {b : Bool} {y n : Ans} (hb : b = true) (h : y = .ok) : Bool.rec (motive := fun _ => AnsT) n y b = .ok := by subst hb; exact h
theorem br_false {b : Bool} {y n : Ans} (hb : b = false) (h : n = .ok) : Bool.rec (motive := fun _ => AnsT) n y b = .ok := by subst hb; exact h
theorem br_split {b : Bool} {y n : Ans} (h1 : b = true → y = .ok) (h2 : b = false → n = .ok) : Bool.rec (motive := fun _ => AnsT) n y b = .ok := by
  cases b
  · exact h2 rfl
  · exact h1 rfl
theorem br_ble {a b : Nat} {y n : Ans} (h1 : a ≤ b → y = .ok) (h2 : b < a → n = .ok) : Bool.rec (motive := fun _ => AnsT) n y (Nat.ble a b) = .ok :=
  br_split (fun h => h1 (Nat.le_of_ble_eq_true h)) fun h => h2 (by have := ble_false h; omega)
theorem br_beq {a b : Nat} {y n : Ans} (h1 : a = b → y = .ok) (h2 : a ≠ b → n = .ok) : Bool.rec (motive := fun _ => AnsT) n y (Nat.beq a b) = .ok :=
  br_split (fun h => h1 (Nat.eq_of_beq_eq_true h)) fun h => h2 (fun e => by subst e; rw [Nat.beq_refl] at h; cases h)
theorem br_dec {p : Prop} [Decidable p] {y n : Ans} (h1 : p → y = .ok) (h2 : ¬ p → n = .ok) : Bool.rec (motive := fun _ => AnsT) n y (decide p) = .ok :=
  br_split (fun h => h1 (of_decide_eq_true h)) fun h => h2 (of_decide_eq_false h)

theorem br_ble_t {a b : Nat} {y n : Ans} (h : a ≤ b) (hy : y = .ok) : Bool.rec (motive := fun _ => AnsT) n y (Nat.ble a b) = .ok := br_true (Nat.ble_eq_true_of_le h) hy
theorem br_ble_f {a b : Nat} {y n : Ans} (h : b < a) (hn : n = .ok) : Bool.rec (motive := fun _ => AnsT) n y (Nat.ble a b) = .ok := br_ble (fun g => by omega) fun _ => hn
theorem br_beq_t {a b : Nat} {y n : Ans} (h : a = b) (hy : y = .ok) : Bool.rec (motive := fun _ => AnsT) n y (Nat.beq a b) = .ok := br_beq (fun _ => hy) fun g => (g h).elim
theorem br_beq_f {a b : Nat} {y n : Ans} (h : a ≠ b) (hn : n = .ok) : Bool.rec (motive := fun _ => AnsT) n y (Nat.beq a b) = .ok := br_beq (fun g => (h g).elim) fun _ => hn

theorem br_max {a : Nat} {y n : Ans} (h : a ≤ 9223372036854775807) (hy : y = .ok) : Bool.rec (motive := fun _ => AnsT) n y (Nat.ble a (maxK .i64)) = .ok := br_true (Nat.ble_eq_true_of_le h) hy
theorem forceN_add {a b : Nat} {k : Nat → Ans} (h : k (a + b) = .ok) : forceN (Nat.add a b) k = .ok := forceN_ok h
theorem forceN_sub {a b : Nat} {k : Nat → Ans} (h : k (a - b) = .ok) : forceN (Nat.sub a b) k = .ok := forceN_ok h
theorem forceN_mul {a b : Nat} {k : Nat → Ans} (h : k (a * b) = .ok) : forceN (Nat.mul a b) k = .ok := forceN_ok h
theorem forceN_suc {a : Nat} {k : Nat → Ans} (h : k (a + 1) = .ok) : forceN (Nat.succ a) k = .ok := forceN_ok h
theorem forceN_byte {a b c : Nat} {k : Nat → Ans} (h : k (a / 256 ^ b % c) = .ok) : forceN (Nat.mod (Nat.div a (Nat.pow 256 b)) c) k = .ok := forceN_ok h
theorem forceN_part {a b c : Nat} {k : Nat → Ans} (h : k (a / 256 ^ b % 256 ^ c) = .ok) : forceN (Nat.mod (Nat.div a (Nat.pow 256 b)) (Nat.pow 256 c)) k = .ok := forceN_ok h
theorem forceZ_add {a b : Nat} {k : Int → Ans} (h : k (.ofNat (a + b)) = .ok) : forceZ (.ofNat (Nat.add a b)) k = .ok := forceZ_ok h
theorem forceZ_sub {a b : Nat} {k : Int → Ans} (h : k (.ofNat (a - b)) = .ok) : forceZ (.ofNat (Nat.sub a b)) k = .ok := forceZ_ok h

theorem forceZ_mul {a b : Nat} {k : Int → Ans} (ha : a * b ≤ 9223372036854775807) (h : k (.ofNat (a * b)) = .ok) : forceZ (IntKind.i64.wrap (.ofNat a * .ofNat b)) k = .ok := by
  have e : IntKind.i64.wrap (.ofNat a * .ofNat b) = .ofNat (a * b) := wrap_small (k := .i64) ha
  rw [e]
  exact forceZ_ok h
theorem beq_false_iff {a b : Nat} : Nat.beq a b = false ↔ a ≠ b := by
  rw [← Bool.not_eq_true, Nat.beq_eq]
theorem ble_false_iff {a b : Nat} : Nat.ble a b = false ↔ b < a := by
  rw [← Bool.not_eq_true, Nat.ble_eq]; omega

theorem rowAt_ok {rows : List (List V)} {i : Nat} {row : List V} {k : List V → Ans} (h : rows[i]? = some row) (hk : k row = .ok) : rowAt rows i k = .ok := by
  induction rows generalizing i with
  | nil => simp at h
  | cons x rows ih =>
    cases i with
    | zero => simp at h; subst h; exact hk
    | succ i => exact ih (by simpa using h)

/-! ### Objects by numbers that are not known -/

theorem acc4_get_ok {hp : Hp} {k : Nat} {ob : KOb} {K : KOb → Ans} (hk : k < 65536) (h : get4 hp k = ob) (hK : K ob = .ok) : (acc4 KOb k).get hp K = .ok := by
  have e := acc4_pr (n := hp) hk
  rw [acc4_D hk] at e ⊢
  show K ((acc4D KOb (k / 4096) (k % 4096)).pr hp) = .ok
  rw [e, h]
  exact hK
theorem acc_upd_ok {α : Type} {i : Nat} {n : N16 α} {v : α} {k : N16 α → Ans} (hi : i < 16) (h : k (n.put i v) = .ok) : (acc α i).upd n v k = .ok := by
  obtain ⟨a0, a1, a2, a3, a4, a5, a6, a7, a8, a9, a10, a11, a12, a13, a14, a15⟩ := n
  have h1 : i = 0 ∨ i = 1 ∨ i = 2 ∨ i = 3 ∨ i = 4 ∨ i = 5 ∨ i = 6 ∨ i = 7 ∨ i = 8 ∨ i = 9 ∨ i = 10 ∨ i = 11 ∨ i = 12 ∨ i = 13 ∨ i = 14 ∨ i = 15 := by omega
  rcases h1 with rfl | rfl | rfl | rfl | rfl | rfl | rfl | rfl | rfl | rfl | rfl | rfl | rfl | rfl | rfl | rfl <;> exact h
theorem acc2_upd_ok {α : Type} {i : Nat} {n : N16 (N16 α)} {v : α} {k : N16 (N16 α) → Ans} (hi : i < 256) (h : k (put2 n i v) = .ok) : (acc2 α i).upd n v k = .ok := by
  rw [acc2_D hi]
  show ((acc α (i % 16)).upd ((acc (N16 α) (i / 16)).pr n) v fun m' => (acc (N16 α) (i / 16)).upd n m' k) = .ok
  rw [acc_pr (by omega)]
  exact acc_upd_ok (by omega) (acc_upd_ok (by omega) h)
theorem acc3_upd_ok {α : Type} {i : Nat} {n : N16 (N16 (N16 α))} {v : α} {k : N16 (N16 (N16 α)) → Ans} (hi : i < 4096) (h : k (put3 n i v) = .ok) : (acc3 α i).upd n v k = .ok := by
  rw [acc3_D hi]
  show ((acc2 α (i % 256)).upd ((acc (N16 (N16 α)) (i / 256)).pr n) v fun m' => (acc (N16 (N16 α)) (i / 256)).upd n m' k) = .ok
  rw [acc_pr (by omega)]
  exact acc2_upd_ok (by omega) (acc_upd_ok (by omega) h)
theorem acc4_upd_ok {hp : Hp} {k : Nat} {ob : KOb} {K : Hp → Ans} (hi : k < 65536) (h : K (put4 hp k ob) = .ok) : (acc4 KOb k).upd hp ob K = .ok := by
  rw [acc4_D hi]
  show ((acc3 KOb (k % 4096)).upd ((acc (N16 (N16 (N16 KOb))) (k / 4096)).pr hp) ob fun m' => (acc (N16 (N16 (N16 KOb))) (k / 4096)).upd hp m' K) = .ok
  rw [acc_pr (by omega)]
  exact acc3_upd_ok (by omega) (acc_upd_ok (by omega) h)

theorem get4_same {hp : Hp} {i : Nat} {v : KOb} (hi : i < 65536) : get4 (put4 hp i v) i = v := by rw [get_put4 _ _ _ _ hi hi, if_pos rfl]
theorem get4_other {hp : Hp} {i j : Nat} {v ob : KOb} (hi : i < 65536) (hj : j < 65536) (hn : j ≠ i) (h : get4 hp j = ob) : get4 (put4 hp i v) j = ob := by rw [get_put4 _ _ _ _ hi hj, if_neg hn]; exact h

theorem acc4_get_same {hp : Hp} {i : Nat} {v : KOb} {K : KOb → Ans} (hi : i < 65536) (h : K v = .ok) : (acc4 KOb i).get (put4 hp i v) K = .ok := acc4_get_ok hi (get4_same hi) h
theorem acc4_get_other {hp : Hp} {i j : Nat} {v : KOb} {K : KOb → Ans} (hi : i < 65536) (hj : j < 65536) (hn : j ≠ i) (h : (acc4 KOb j).get hp K = .ok) : (acc4 KOb j).get (put4 hp i v) K = .ok :=
  acc4_get_ok hj (get4_other hi hj hn rfl) (by obtain ⟨_, h⟩ := acc4_get h; exact h)

/-- Something, or nothing. -/
noncomputable def optX {α : Type} (x : Option α) (n : Ans) (y : α → Ans) : Ans := Option.rec (motive := fun _ => AnsT) n y x
theorem optX_inv {α : Type} {x : Option α} {n : Ans} {y : α → Ans} (h : optX x n y = .ok) : (x = none ∧ n = .ok) ∨ ∃ a, x = some a ∧ y a = .ok := by
  cases x with
  | none => exact .inl ⟨rfl, h⟩
  | some a => exact .inr ⟨a, rfl, h⟩
theorem opt_split {α : Type} {x : Option α} {n : Ans} {y : α → Ans} (h1 : x = none → n = .ok) (h2 : ∀ a, x = some a → y a = .ok) : Option.rec (motive := fun _ => AnsT) n y x = .ok := by
  cases x with
  | none => exact h1 rfl
  | some a => exact h2 a rfl

theorem opt3_split {x : Option (Nat × Nat × Nat)} {n : Ans} {y : Nat × Nat × Nat → Ans} (h1 : x = none → n = .ok) (h2 : ∀ a b c, x = some (a, b, c) → y (a, b, c) = .ok) : Option.rec (motive := fun _ => AnsT) n y x = .ok :=
  opt_split h1 fun ⟨a, b, c⟩ h => h2 a b c h

theorem int_split {z : Int} {f g : Nat → Ans} (h1 : ∀ a, z = .ofNat a → f a = .ok) (h2 : ∀ a, z = .negSucc a → g a = .ok) : Int.rec (motive := fun _ => AnsT) f g z = .ok := by
  cases z with
  | ofNat a => exact h1 a rfl
  | negSucc a => exact h2 a rfl

/-! ### Loops -/

theorem big_lt {m : Nat} (h : m < 18446744073709551616) : m < rounds0 := by unfold rounds0; exact h

/-- A loop: what holds at its head; a measure. -/
theorem loop_ok {c : Env → K3 → Tm → Hp → Nat → Ans} {E : Env} (I : Nat → Tm → Hp → Nat → Prop) {m : Nat} {tm : Tm} {hp : Hp} {nx : Nat} (hm : m < 18446744073709551616) (h0 : I m tm hp nx)
    (step : ∀ (m : Nat) (tm : Tm) (hp : Hp) (nx : Nat), I m tm hp nx → ∀ k : K3, (∀ (m' : Nat) (tm' : Tm) (hp' : Hp) (nx' : Nat), m' < m → I m' tm' hp' nx' → k tm' hp' nx' = .ok) → c E k tm hp nx = .ok) :
    roundsK c E rounds0 tm hp nx = .ok := by
  have key : ∀ (R m : Nat) (tm : Tm) (hp : Hp) (nx : Nat), m < R → I m tm hp nx → roundsK c E R tm hp nx = .ok := by
    intro R
    induction R with
    | zero => intro m _ _ _ h; omega
    | succ R ih =>
      intro m tm hp nx hlt hI
      exact step m tm hp nx hI (roundsK c E R) fun m' tm' hp' nx' h1 h2 => ih m' tm' hp' nx' (by omega) h2
  exact key _ m tm hp nx (big_lt hm) h0

/-! ### Calls that are answered otherwise -/

@[reducible] def OvT : Type := List V → List PC → Hp → Nat → (V → Hp → Nat → Ans) → (V → Hp → Nat → Ans) → Ans

def OvOK (ρ : Nat → Value) (P : Program) (f : FuncId) (c : OvT) : Prop :=
  ∀ (args : List V) (forb : List PC) (hp : Hp) (nx : Nat) (kr kp : V → Hp → Nat → Ans), c args forb hp nx kr kp = .ok → QCalls ρ P f args (absO hp) nx (inL forb) (RK kr kp)

noncomputable def over (f0 : FuncId) (c0 : OvT) (c : CallT) : CallT := fun f args forb hp nx kr kp => boolK (Nat.beq f f0) (c0 args forb hp nx kr kp) (c f args forb hp nx kr kp)

theorem over_ok {f0 : FuncId} {c0 : OvT} {c : CallT} (h0 : OvOK ρ P f0 c0) (hc : CallOK ρ P c) : CallOK ρ P (over f0 c0 c) := by
  intro f args forb hp nx kr kp h
  rcases boolK_inv h with ⟨h1, h⟩ | ⟨h1, h⟩
  · rw [Nat.eq_of_beq_eq_true h1]; exact h0 args forb hp nx kr kp h
  · exact hc f args forb hp nx kr kp h

noncomputable def call0 : CallT := fun _ _ _ _ _ _ _ => .err 81
theorem call0_ok : CallOK ρ P call0 := fun _ _ _ _ _ _ _ h => Ans.no h

/-- A function whose body runs to its end, whatever the call says. -/
theorem ov_of_body (hm : P.follows .mixedOrders = true) {G : Gl} (hG : GOK' P G) {f : FuncId} {c0 : OvT} {call : CallT} (hc : CallOK ρ P call)
    (h : ∀ args forb hp nx kr kp, c0 args forb hp nx kr kp = .ok → (bdy P G f).run call args forb hp nx kr kp = .ok) : OvOK ρ P f c0 :=
  fun args forb hp nx kr kp hk => bdy_sound hm hG hc (h args forb hp nx kr kp hk)

/-- An answer that hangs on the arguments alone. -/
noncomputable def pureOv (F : List V → (V → Ans) → Ans) : OvT := fun args _ hp nx kr _ => F args fun v => kr v hp nx

end Go.Proofs.YtibmbbogjkecoaaDoor.M

/- A call may be looked at with the objects alone that it is about: what it makes afresh goes out as what nobody writes. -/
namespace Go.Proofs.YtibmbbogjkecoaaDoor.M
open Go Go.RowKit
set_option linter.unusedSimpArgs false
set_option linter.unusedVariables false

variable {ρ : Nat → Value} {P : Program}

/-- Of one cell: as it is, or the rows of an object of N that was made afresh. -/
inductive FrzC (N : Nat → Prop) (O : Objs) : V → V → Prop
  | same (q : V) (h : q.one = true) (hf : q.flat = true) : FrzC N O q q
  | sl (k off len : Nat) (full : Bool) (ob : Ob) (rows : List (List V)) (old : Nat → List V) (hN : N k) (hob : O k = some ob) (hmp : ob.mp = false) (hl : rows.length = len)
      (ho : ∀ (r : Nat) (row' : List V), rows[r]? = some row' → ob.row (off + r) = some (old r) ∧ row'.length = (old r).length)
      (h : ∀ (r : Nat) (row' : List V), rows[r]? = some row' → ∀ (c : Nat) (q q' : V), (old r)[c]? = some q → row'[c]? = some q' → FrzC N O q q') :
      FrzC N O (.sl k off len full) (.ro ob.s rows)

/-- Of an answer. -/
inductive Frz (N : Nat → Prop) (O : Objs) : V → V → Prop
  | un (q : V) : Frz N O q .un
  | flat (q : V) (hf : q.flat = true) : Frz N O q q
  | cell {q q' : V} (h : FrzC N O q q') : Frz N O q q'
  | tup (l l' : List V) (hl : l'.length = l.length) (h : ∀ (i : Nat) (q q' : V), l[i]? = some q → l'[i]? = some q' → Frz N O q q') : Frz N O (.tup l) (.tup l')
  | agg (l l' : List V) (hl : l'.length = l.length) (h : ∀ (i : Nat) (q q' : V), l[i]? = some q → l'[i]? = some q' → Frz N O q q') : Frz N O (.agg l) (.agg l')

theorem FrzC.one {N : Nat → Prop} {O : Objs} {q q' : V} (h : FrzC N O q q') : q'.one = true := by
  cases h with
  | same _ h => exact h
  | sl => rfl

theorem FrzC.rep {w : World} {A L' N : Nat → Prop} {T : Tab} {O : Objs} (hm : HoldsM ρ w A T O) (hL : ∀ b, L' b → A b ∨ ∃ (j : Nat) (ob : Ob) (p : Pl), ¬ N j ∧ O j = some ob ∧ T j = some p ∧ p.b = b) :
    ∀ {q q' : V}, FrzC N O q q' → ∀ {v : Value}, Rep ρ w (Live A T O) T q v → RepP ρ w L' q' v := by
  have hL2 : ∀ b, L' b → Live A T O b := fun b h => (hL b h).imp id fun ⟨j, ob, p, _, h1, h2, h3⟩ => ⟨j, ob, p, h1, h2, h3⟩
  intro q q' h
  induction h with
  | same q h1 hf =>
    intro v hr
    exact (repP_flat hr hf).later (Nat.le_refl _) (fun _ _ _ => rfl) fun b _ hn hl => hn (hL2 b hl)
  | sl k off len full ob rows old hN hob hmp hl ho h ih =>
    intro v hr
    obtain ⟨p, at_, cap, hT, ha, hc, hf, ⟨C, t, fr, hC, hroom⟩, rfl⟩ := rep_sl hr
    obtain ⟨p', hT', hA, hs, hcs, _⟩ := hm.obj k ob hob
    obtain ⟨C', t', hC', hrow⟩ := hcs hmp
    rw [hT] at hT'
    cases hT'
    rw [hC] at hC'
    cases hC'
    subst hl
    have hb : p.b < w.heap.size := rep_lt hm ⟨k, ob, p, hob, hT, rfl⟩
    have hnL : ¬ L' p.b := by
      intro g
      rcases hL _ g with g | ⟨j, ob2, p2, g1, g2, g3, g4⟩
      · exact hA g
      · have := hm.inj j k ob2 ob p2 p g2 hob g3 hT g4
        subst this
        exact g1 hN
    have cell : ∀ (r : Nat) (row' : List V), rows[r]? = some row' → ∀ (c : Nat) (q' : V), row'[c]? = some q' → ∃ x, C[at_ + (r * ob.s + c)]? = some x ∧ RepP ρ w L' q' x := by
      intro r row' hr' c q' hq'
      obtain ⟨h1, h2⟩ := ho r row' hr'
      obtain ⟨g1, g2, g3⟩ := hrow _ _ h1
      have hlt : c < (old r).length := by rw [← h2]; exact lt_of_get hq'
      obtain ⟨x, g4, g5⟩ := g3 c _ (List.getElem?_eq_getElem hlt)
      have hat : at_ = p.o + off * p.s := by
        rcases ha with e | e
        · have := lt_of_get hr'
          omega
        · exact e
      refine ⟨x, ?_, ih r row' hr' c _ q' (List.getElem?_eq_getElem hlt) hq' g5⟩
      rw [← g4, hat, hs, Nat.add_mul]
      congr 1
      omega
    refine RepP.ro ob.s rows p.b at_ cap (fun r c => (C[at_ + (r * ob.s + c)]?).getD undef) hnL hb hc (fun row' hm' => ?_) (fun r row' hr' c q' hq' => ?_) (fun r row' hr' c q' hq' => ?_)
    · obtain ⟨r, hr', rfl⟩ := List.mem_iff_getElem.mp hm'
      obtain ⟨h1, h2⟩ := ho r _ (List.getElem?_eq_getElem hr')
      obtain ⟨g1, g2, g3⟩ := hrow _ _ h1
      refine ⟨h2.trans g1, fun q' hq' => ?_⟩
      obtain ⟨c, hc', rfl⟩ := List.mem_iff_getElem.mp hq'
      exact (h r _ (List.getElem?_eq_getElem hr') c _ _ (List.getElem?_eq_getElem (by omega)) (List.getElem?_eq_getElem hc')).one
    · obtain ⟨x, h1, h2⟩ := cell r row' hr' c q' hq'
      rw [cell_at hC, h1]
      rfl
    · obtain ⟨x, h1, h2⟩ := cell r row' hr' c q' hq'
      rw [h1]
      exact h2

theorem Frz.rep {w : World} {A L' N : Nat → Prop} {T T' : Tab} {O : Objs} (hm : HoldsM ρ w A T O) (hL : ∀ b, L' b → A b ∨ ∃ (j : Nat) (ob : Ob) (p : Pl), ¬ N j ∧ O j = some ob ∧ T j = some p ∧ p.b = b) :
    ∀ {q q' : V}, Frz N O q q' → ∀ {v : Value}, Rep ρ w (Live A T O) T q v → Rep ρ w L' T' q' v := by
  have hL2 : ∀ b, L' b → Live A T O b := fun b h => (hL b h).imp id fun ⟨j, ob, p, _, h1, h2, h3⟩ => ⟨j, ob, p, h1, h2, h3⟩
  intro q q' h
  induction h with
  | un q => exact fun _ => rep_un
  | flat q hf => exact fun hr => .pure ((repP_flat hr hf).later (Nat.le_refl _) (fun _ _ _ => rfl) fun b _ hn hl => hn (hL2 b hl))
  | cell h => exact fun hr => .pure (h.rep hm hL hr)
  | tup l l' hl h ih =>
    intro v hr
    obtain ⟨vs, rfl, hs, hr⟩ := rep_tup hr
    refine .tup l' vs (by omega) fun i q' hq' => ?_
    have hi : i < l.length := by have := lt_of_get hq'; omega
    exact ih i _ q' (List.getElem?_eq_getElem hi) hq' (hr i _ (List.getElem?_eq_getElem hi))
  | agg l l' hl h ih =>
    intro v hr
    obtain ⟨vs, rfl, hs, hr⟩ := rep_agg hr
    refine .agg l' vs (by omega) fun i q' hq' => ?_
    have hi : i < l.length := by have := lt_of_get hq'; omega
    exact ih i _ q' (List.getElem?_eq_getElem hi) hq' (hr i _ (List.getElem?_eq_getElem hi))

/-- Of an object. -/
structure FrzOb (N : Nat → Prop) (O : Objs) (ob ob' : Ob) : Prop where
  s : ob'.s = ob.s
  mp : ob.mp = false
  mp' : ob'.mp = false
  rows : ∀ (r : Nat) (row' : List V), ob'.row r = some row' → ∃ row, ob.row r = some row ∧ row'.length = row.length ∧ ∀ (c : Nat) (q q' : V), row[c]? = some q → row'[c]? = some q' → FrzC N O q q'

inductive FrzOut (N : Nat → Prop) (O : Objs) : Out → Out → Prop
  | ret {v v' : V} (h : Frz N O v v') : FrzOut N O (.ret v) (.ret v')
  | panic {v v' : V} (h : Frz N O v v') : FrzOut N O (.panic v) (.panic v')

/-- An object whose cells hold no objects. -/
def Ob.flat (ob : Ob) : Prop := ob.mp = false ∧ ∀ (r : Nat) (row : List V), ob.row r = some row → ∀ q ∈ row, q.flat = true

/-- Objects laid over others. -/
def putL : List Nat → List Ob → Objs → Objs
  | k :: κ, ob :: obs, O => Objs.put (putL κ obs O) k (some ob)
  | _, _, O => O

theorem putL_out : ∀ {κ : List Nat} {obs : List Ob} {O : Objs} {k : Nat}, k ∉ κ → putL κ obs O k = O k
  | [], _, _, _, _ => rfl
  | _ :: _, [], _, _, _ => rfl
  | j :: κ, ob :: obs, O, k, h => by
    show Objs.put (putL κ obs O) j (some ob) k = _
    unfold Objs.put
    rw [if_neg (fun e => h (by rw [e]; exact List.mem_cons_self))]
    exact putL_out fun g => h (List.mem_cons_of_mem _ g)

theorem putL_in : ∀ {κ : List Nat} {obs : List Ob} {O : Objs} {i k : Nat}, κ.Nodup → obs.length = κ.length → κ[i]? = some k → putL κ obs O k = obs[i]?
  | [], _, _, _, _, _, _, h => by simp at h
  | _ :: _, [], _, _, _, _, h, _ => by simp at h
  | j :: κ, ob :: obs, O, i, k, hn, hl, h => by
    show Objs.put (putL κ obs O) j (some ob) k = _
    unfold Objs.put
    rw [List.nodup_cons] at hn
    cases i with
    | zero =>
      simp at h
      subst h
      rw [if_pos rfl]
      rfl
    | succ i =>
      have h : κ[i]? = some k := by simpa using h
      have hmem : k ∈ κ := List.mem_of_getElem? h
      rw [if_neg (fun e => hn.1 (by rw [← e]; exact hmem))]
      exact putL_in hn.2 (by simpa using hl) h

theorem nodup_inj : ∀ {l : List Nat} {i j k : Nat}, l.Nodup → l[i]? = some k → l[j]? = some k → i = j
  | [], i, j, k, _, h, _ => by simp at h
  | x :: l, i, j, k, hn, h1, h2 => by
    rw [List.nodup_cons] at hn
    cases i with
    | zero =>
      cases j with
      | zero => rfl
      | succ j =>
        simp at h1 h2
        subst h1
        exact (hn.1 (List.mem_of_getElem? h2)).elim
    | succ i =>
      cases j with
      | zero =>
        simp at h1 h2
        subst h2
        exact (hn.1 (List.mem_of_getElem? h1)).elim
      | succ j =>
        simp at h1 h2
        rw [nodup_inj hn.2 h1 h2]

/-- An argument, inside and outside. -/
inductive Arg2 (κ : List Nat) : V → V → Prop
  | flat (q : V) (h : q.flat = true) : Arg2 κ q q
  | fn (f : FuncId) : Arg2 κ (.fn f []) (.fn f [])
  | ptr (i k r c : Nat) (h : κ[i]? = some k) : Arg2 κ (.ptr i r c) (.ptr k r c)
  | sl (i k off len : Nat) (full : Bool) (h : κ[i]? = some k) : Arg2 κ (.sl i off len full) (.sl k off len full)
  | agg (l l' : List V) (hl : l'.length = l.length) (h : ∀ (i : Nat) (q q' : V), l[i]? = some q → l'[i]? = some q' → Arg2 κ q q') : Arg2 κ (.agg l) (.agg l')

/-- What is said inside of an end. -/
def Inner (n : Nat) (R : Out → List Ob → Prop) (o : Out) (O : Objs) (m : Nat) : Prop :=
  ∃ (o' : Out) (obs' : List Ob), FrzOut (fun j => n ≤ j) O o o' ∧ obs'.length = n ∧ (∀ (i : Nat) (ob' : Ob), obs'[i]? = some ob' → ∃ ob, O i = some ob ∧ FrzOb (fun j => n ≤ j) O ob ob') ∧ R o' obs'

theorem frame {f : FuncId} {args args' : List V} {κ : List Nat} {obs : List Ob} {fi : CellP} {R : Out → List Ob → Prop} (hκ : κ.Nodup) (hlen : obs.length = κ.length) (hflat : ∀ ob ∈ obs, ob.flat)
    (hargs : args'.length = args.length ∧ ∀ (i : Nat) (q q' : V), args[i]? = some q → args'[i]? = some q' → Arg2 κ q q')
    (h : QCalls ρ P f args (fun i => obs[i]?) obs.length fi (Inner obs.length R)) {objs : Objs} {next : Nat} {forb : CellP}
    (ho : ∀ (i k : Nat), κ[i]? = some k → objs k = obs[i]?) (hf : ∀ (i k r c : Nat), κ[i]? = some k → forb k r c → fi i r c) :
    QCalls ρ P f args' objs next forb (fun o O m => ∃ obs', obs'.length = obs.length ∧ R o obs' ∧ O = putL κ obs' objs ∧ m = next) := by
  intro w A T vals hm htop hsz hvals
  have hob : ∀ (i k : Nat), κ[i]? = some k → ∃ ob p, obs[i]? = some ob ∧ objs k = some ob ∧ T k = some p := by
    intro i k hi
    have hlt : i < obs.length := by rw [hlen]; exact lt_of_get hi
    have e := ho i k hi
    rw [List.getElem?_eq_getElem hlt] at e
    obtain ⟨p, hp, _⟩ := hm.obj k _ e
    exact ⟨_, p, List.getElem?_eq_getElem hlt, e, hp⟩
  -- inside: these objects alone; all others are somebody else's
  let A' : Nat → Prop := fun b => A b ∨ ∃ (j : Nat) (ob : Ob) (p : Pl), j ∉ κ ∧ objs j = some ob ∧ T j = some p ∧ p.b = b
  let T' : Tab := fun i => (κ[i]?).bind T
  have hT' : ∀ (i k : Nat), κ[i]? = some k → T' i = T k := fun i k hi => by show (κ[i]?).bind T = _; rw [hi]; rfl
  have hLiveO : ∀ b, LiveO T' (fun i => obs[i]?) b ↔ ∃ (i k : Nat) (ob : Ob) (p : Pl), κ[i]? = some k ∧ objs k = some ob ∧ T k = some p ∧ p.b = b := by
    intro b
    constructor
    · rintro ⟨i, ob, p, h1, h2, h3⟩
      have hlt : i < κ.length := by rw [← hlen]; exact lt_of_get h1
      have hi : κ[i]? = some κ[i] := List.getElem?_eq_getElem hlt
      refine ⟨i, κ[i], ob, p, hi, ?_, ?_, h3⟩
      · rw [ho i _ hi]; exact h1
      · rw [← hT' i _ hi]; exact h2
    · rintro ⟨i, k, ob, p, h1, h2, h3, h4⟩
      exact ⟨i, ob, p, by show obs[i]? = some ob; rw [← ho i k h1]; exact h2, by rw [hT' i k h1]; exact h3, h4⟩
  have hLive : ∀ b, Live A' T' (fun i => obs[i]?) b ↔ Live A T objs b := by
    intro b
    constructor
    · rintro ((g | ⟨j, ob, p, _, h2, h3, h4⟩) | g)
      · exact .inl g
      · exact .inr ⟨j, ob, p, h2, h3, h4⟩
      · obtain ⟨i, k, ob, p, _, h2, h3, h4⟩ := (hLiveO b).mp g
        exact .inr ⟨k, ob, p, h2, h3, h4⟩
    · rintro (g | ⟨k, ob, p, h2, h3, h4⟩)
      · exact .inl (.inl g)
      · by_cases hk : k ∈ κ
        · obtain ⟨i, hi, e⟩ := List.mem_iff_getElem.mp hk
          exact .inr ((hLiveO b).mpr ⟨i, k, ob, p, by rw [List.getElem?_eq_getElem hi, e], h2, h3, h4⟩)
        · exact .inl (.inr ⟨k, ob, p, hk, h2, h3, h4⟩)
  have hLe : Live A' T' (fun i => obs[i]?) = Live A T objs := funext fun b => propext (hLive b)
  have hin : ∀ {i j : Nat} {k : Nat}, κ[i]? = some k → κ[j]? = some k → i = j := by
    intro i j k h1 h2
    exact nodup_inj hκ h1 h2
  have flatP : ∀ (i k : Nat) (ob : Ob) (p : Pl), κ[i]? = some k → objs k = some ob → T k = some p → RepOb ρ w (Live A' T' fun i => obs[i]?) T' p ob := by
    intro i k ob p hi hk hp
    obtain ⟨p', h1, hA, h2, hcs, _⟩ := hm.obj k ob hk
    rw [hp] at h1
    cases h1
    have hmem : ob ∈ obs := by
      have := ho i k hi
      rw [hk] at this
      exact List.mem_of_getElem? this.symm
    obtain ⟨hmp, hfl⟩ := hflat ob hmem
    obtain ⟨C, t, h3, h4⟩ := hcs hmp
    refine ⟨h2, fun _ => ⟨C, t, h3, fun r row hr => ?_⟩, fun e => by rw [hmp] at e; cases e⟩
    obtain ⟨g1, g2, g3⟩ := h4 r row hr
    refine ⟨g1, g2, fun c q hq => ?_⟩
    obtain ⟨v, h6, h7⟩ := g3 c q hq
    refine ⟨v, h6, .pure ?_⟩
    rw [hLe]
    exact repP_flat h7 (hfl r row hr q (List.mem_of_getElem? hq))
  have hM' : HoldsM ρ w A' T' (fun i => obs[i]?) := by
    refine ⟨fun b hb => ?_, fun i p hp => ?_, fun i ob hi => ?_, fun i j x y p q hi hj hp hq hb => ?_, ?_⟩
    · rcases hb with g | ⟨j, ob, p, _, h2, h3, h4⟩
      · exact hm.avoid b g
      · exact rep_lt hm ⟨j, ob, p, h2, h3, h4⟩
    · have hp : (κ[i]?).bind T = some p := hp
      obtain ⟨k, _, h2⟩ := Option.bind_eq_some_iff.mp hp
      exact hm.low k p h2
    · have hlt : i < κ.length := by rw [← hlen]; exact lt_of_get hi
      have hi' : κ[i]? = some κ[i] := List.getElem?_eq_getElem hlt
      obtain ⟨ob', p, h1, h2, h3⟩ := hob i _ hi'
      rw [hi] at h1
      cases h1
      refine ⟨p, by rw [hT' i _ hi']; exact h3, ?_, flatP i _ ob p hi' h2 h3⟩
      rintro (g | ⟨j, ob2, p2, g1, g2, g3, g4⟩)
      · obtain ⟨p', f1, f2, _⟩ := hm.obj _ _ h2
        rw [h3] at f1
        cases f1
        exact f2 g
      · have := hm.inj j _ ob2 ob p2 p g2 h2 g3 h3 g4
        exact g1 (by rw [this]; exact List.getElem_mem hlt)
    · have l1 : i < κ.length := by rw [← hlen]; exact lt_of_get hi
      have l2 : j < κ.length := by rw [← hlen]; exact lt_of_get hj
      have e1 : κ[i]? = some κ[i] := List.getElem?_eq_getElem l1
      have e2 : κ[j]? = some κ[j] := List.getElem?_eq_getElem l2
      rw [hT' i _ e1] at hp
      rw [hT' j _ e2] at hq
      have := hm.inj _ _ x y p q (by rw [ho i _ e1]; exact hi) (by rw [ho j _ e2]; exact hj) hp hq hb
      exact nodup_inj hκ e1 (by rw [e2, this])
    · exact hm.glob.congr fun b hb => (hLive b).mp hb
  have hargs2 : ∀ {q q' : V}, Arg2 κ q q' → ∀ {v : Value}, Rep ρ w (Live A T objs) T q' v → Rep ρ w (Live A' T' fun i => obs[i]?) T' q v := by
    intro q q' h
    induction h with
    | flat q hq => intro v hr; rw [hLe]; exact .pure (repP_flat hr hq)
    | fn f =>
      intro v hr
      obtain ⟨vs, rfl, hs, _⟩ := rep_fn hr
      exact .fn f [] vs hs fun i q hq => by simp at hq
    | ptr i k r c hi =>
      intro v hr
      obtain ⟨p, h1, rfl⟩ := rep_ptr hr
      exact .ptr i r c p (by rw [hT' i k hi]; exact h1)
    | sl i k off len full hi =>
      intro v hr
      obtain ⟨p, at_, cap, h1, h2, h3, h4, h5, rfl⟩ := rep_sl hr
      exact .sl i off len full p at_ cap (by rw [hT' i k hi]; exact h1) h2 h3 h4 h5
    | agg l l' hl h ih =>
      intro v hr
      obtain ⟨vs, rfl, hs, hr⟩ := rep_agg hr
      refine .agg l vs (by omega) fun i q hq => ?_
      have hi : i < l'.length := by have := lt_of_get hq; omega
      exact ih i q _ hq (List.getElem?_eq_getElem hi) (hr i _ (List.getElem?_eq_getElem hi))
  refine (h w A' T' vals hM' (fun i hi => ⟨?_, ?_⟩) (by rw [hsz]; exact hargs.1) (fun i q hq => ?_)).mono ?_
  · show (κ[i]?).bind T = none
    rw [List.getElem?_eq_none (by omega)]
    rfl
  · exact List.getElem?_eq_none (by omega)
  · have hi : i < args'.length := by have := lt_of_get hq; rw [hargs.1]; exact this
    exact hargs2 (hargs.2 i q _ hq (List.getElem?_eq_getElem hi)) (hvals i _ (List.getElem?_eq_getElem hi))
  rintro e w' ⟨out, O, n', T2, ⟨o', obs', hfrz, hl', hobs', hR⟩, hwent, hrep⟩
  -- outside again
  have hkeepB : ∀ b, b < w.heap.size → ¬ LiveO T' (fun i => obs[i]?) b → w'.heap[b]? = w.heap[b]? := hwent.keep.block
  have hnew : ∀ k, putL κ obs' objs k ≠ none ↔ objs k ≠ none := by
    intro k
    by_cases hk : k ∈ κ
    · obtain ⟨i, hi, e⟩ := List.mem_iff_getElem.mp hk
      have hi' : κ[i]? = some k := by rw [List.getElem?_eq_getElem hi, e]
      rw [putL_in hκ (by omega) hi', ho i k hi', List.getElem?_eq_getElem (by omega), List.getElem?_eq_getElem (by omega)]
      simp
    · rw [putL_out hk]
  have hLiveN : ∀ b, LiveO T (putL κ obs' objs) b ↔ LiveO T objs b := by
    intro b
    constructor
    · rintro ⟨k, ob, p, h1, h2, h3⟩
      have := (hnew k).mp (by rw [h1]; simp)
      cases e : objs k with
      | none => exact (this e).elim
      | some ob2 => exact ⟨k, ob2, p, e, h2, h3⟩
    · rintro ⟨k, ob, p, h1, h2, h3⟩
      have := (hnew k).mpr (by rw [h1]; simp)
      cases e : putL κ obs' objs k with
      | none => exact (this e).elim
      | some ob2 => exact ⟨k, ob2, p, e, h2, h3⟩
  have hLiveNe : Live A T (putL κ obs' objs) = Live A T objs := funext fun b => propext ⟨fun h => h.imp id (hLiveN b).mp, fun h => h.imp id (hLiveN b).mpr⟩
  have hlater : ∀ (q : V) (v : Value), Rep ρ w (Live A T objs) T q v → Rep ρ w' (Live A T (putL κ obs' objs)) T q v := fun q v hq => by
    rw [hLiveNe]
    exact hq.later hwent.keep.size (fun b hb hn => hkeepB b hb fun g => by
      obtain ⟨i, k, ob, p, _, h2, h3, h4⟩ := (hLiveO b).mp g
      exact hn (.inr ⟨k, ob, p, h2, h3, h4⟩)) (fun _ _ h => h) hwent.keep.shape (fun _ _ h => h)
  have hLout : ∀ b, Live A T (putL κ obs' objs) b → A' b ∨ ∃ (j : Nat) (ob : Ob) (p : Pl), ¬ obs.length ≤ j ∧ O j = some ob ∧ T2 j = some p ∧ p.b = b := by
    intro b hb
    rw [hLiveNe] at hb
    rcases (hLive b).mpr hb with g | g
    · exact .inl g
    · obtain ⟨i, k, ob, p, h1, h2, h3, h4⟩ := (hLiveO b).mp g
      right
      have hi : i < κ.length := lt_of_get h1
      obtain ⟨ob2, g1, _⟩ := hobs' i _ (List.getElem?_eq_getElem (show i < obs'.length by omega))
      exact ⟨i, ob2, p, by omega, g1, hwent.ext i p (by rw [hT' i k h1]; exact h3), h4⟩
  have hWent : Went ρ A forb T objs w T (putL κ obs' objs) next w' := by
    refine ⟨fun _ _ h => h, ⟨fun b hb => Nat.lt_of_lt_of_le (hm.avoid b hb) hwent.keep.size, fun k p hp => Nat.lt_of_lt_of_le (hm.low k p hp) hwent.keep.size, fun k ob hk => ?_, fun i j x y p q hi hj hp hq hb => ?_, ?_⟩, fun k hk => ⟨(htop k hk).1, ?_⟩, fun k p h1 h2 => (by rw [h1] at h2; cases h2), fun k _ h => (hnew k).mp h, fun k r c _ h => (hnew k).mpr h, hwent.keep.mono fun b _ hb => ?_, fun k r c p h1 h2 h3 h4 => ?_⟩
    · by_cases hmem : k ∈ κ
      · obtain ⟨i, hi, e⟩ := List.mem_iff_getElem.mp hmem
        have hi' : κ[i]? = some k := by rw [List.getElem?_eq_getElem hi, e]
        rw [putL_in hκ (by omega) hi'] at hk
        obtain ⟨ob0, p, g1, g2, g3⟩ := hob i k hi'
        obtain ⟨ob2, g4, g5⟩ := hobs' i ob hk
        obtain ⟨p2, f1, f2, f3, hcs, _⟩ := hwent.mem.obj i ob2 g4
        obtain ⟨C, t, f4, f5⟩ := hcs g5.mp
        have f6 := hwent.ext i p (by rw [hT' i k hi']; exact g3)
        rw [f1] at f6
        cases f6
        obtain ⟨p', k1, k2, _⟩ := hm.obj k ob0 g2
        rw [g3] at k1
        cases k1
        refine ⟨p, g3, k2, by rw [f3, g5.s], fun _ => ⟨C, t, f4, fun r row' hr => ?_⟩, fun e => by rw [g5.mp'] at e; cases e⟩
        obtain ⟨row, j1, j2, j3⟩ := g5.rows r row' hr
        obtain ⟨j4, j5, j6⟩ := f5 r row j1
        refine ⟨by rw [j2, j4, g5.s], fun q' hq' => ?_, fun c q' hq' => ?_⟩
        · obtain ⟨c, hc, rfl⟩ := List.mem_iff_getElem.mp hq'
          exact (j3 c _ _ (List.getElem?_eq_getElem (by omega)) (List.getElem?_eq_getElem hc)).one
        · have hc : c < row.length := by have := lt_of_get hq'; omega
          obtain ⟨v, j7, j8⟩ := j6 c _ (List.getElem?_eq_getElem hc)
          exact ⟨v, j7, .pure ((j3 c _ q' (List.getElem?_eq_getElem hc) hq').rep hwent.mem hLout j8)⟩
      · rw [putL_out hmem] at hk
        obtain ⟨p, h1, hA, h2⟩ := hm.obj k ob hk
        have hne : ¬ LiveO T' (fun i => obs[i]?) p.b := by
          intro g
          obtain ⟨i, k2, ob2, p2, g1, g2, g3, g4⟩ := (hLiveO _).mp g
          have := hm.inj k2 k ob2 ob p2 p g2 hk g3 h1 g4
          exact hmem (by rw [← this]; exact List.mem_of_getElem? g1)
        exact ⟨p, h1, hA, h2.later (hkeepB p.b h2.heap hne) hlater⟩
    · have h1 := (hnew i).mp (by rw [hi]; simp)
      have h2 := (hnew j).mp (by rw [hj]; simp)
      cases e1 : objs i with
      | none => exact (h1 e1).elim
      | some x' =>
        cases e2 : objs j with
        | none => exact (h2 e2).elim
        | some y' => exact hm.inj i j x' y' p q e1 e2 hp hq hb
    · rw [hLiveNe]
      exact hm.glob.later hwent.keep.size (fun b hb hn => hkeepB b hb fun g => by
        obtain ⟨i, k, ob, p, _, h2, h3, h4⟩ := (hLiveO b).mp g
        exact hn (.inr ⟨k, ob, p, h2, h3, h4⟩)) (fun _ _ h => h)
    · have h2 := (htop k hk).2
      cases e : putL κ obs' objs k with
      | none => rfl
      | some x => exact ((hnew k).mp (by rw [e]; simp) h2).elim
    · obtain ⟨i, k, ob, p, _, h2, h3, h4⟩ := (hLiveO b).mp hb
      exact ⟨k, ob, p, h2, h3, h4⟩
    · by_cases hmem : k ∈ κ
      · obtain ⟨i, hi, e⟩ := List.mem_iff_getElem.mp hmem
        have hi' : κ[i]? = some k := by rw [List.getElem?_eq_getElem hi, e]
        exact hwent.cells i r c p (hf i k r c hi' h1) (by rw [← ho i k hi']; exact h2) (by rw [hT' i k hi']; exact h3) h4
      · have hne : ¬ LiveO T' (fun i => obs[i]?) p.b := by
          intro g
          obtain ⟨i, k2, ob2, p2, g1, g2, g3, g4⟩ := (hLiveO _).mp g
          cases e : objs k with
          | none => exact (h2 e).elim
          | some ob =>
            have := hm.inj k2 k ob2 ob p2 p g2 e g3 h3 g4
            exact hmem (by rw [← this]; exact List.mem_of_getElem? g1)
        exact cell_of_heap (w := w) (w' := w') (hkeepB p.b (hm.low k p h3) hne)
  refine ⟨o', putL κ obs' objs, next, T, ⟨obs', hl', hR, rfl, rfl⟩, hWent, ?_⟩
  cases hfrz with
  | ret hz =>
    cases e with
    | returned x => exact hz.rep hwent.mem hLout hrep
    | panicked c => exact hrep.elim
    | outgrown => exact hrep.elim
  | panic hz =>
    cases e with
    | returned x => exact hrep.elim
    | panicked c =>
      obtain ⟨x, h1, h2⟩ := hrep
      exact ⟨x, h1, hz.rep hwent.mem hLout h2⟩
    | outgrown => exact hrep.elim

end Go.Proofs.YtibmbbogjkecoaaDoor.M

/- What functions answer, said once: of arguments without objects; of a receiver that is one row of cells. -/
namespace Go.Proofs.YtibmbbogjkecoaaDoor.M
open Go Go.RowKit
set_option linter.unusedSimpArgs false
set_option linter.unusedVariables false

variable {ρ : Nat → Value} {P : Program}

open Classical in
noncomputable def okIf (p : Prop) : Ans := if p then .ok else .err 7
theorem okIf_ok {p : Prop} (h : p) : okIf p = .ok := if_pos h
theorem okIf_inv {p : Prop} (h : okIf p = .ok) : p := by
  unfold okIf at h
  split at h
  · assumption
  · cases h

/-- Whatever there is: this is answered, and nothing else is done. -/
def Says (ρ : Nat → Value) (P : Program) (f : FuncId) (args : List V) (v : V) : Prop :=
  ∀ (objs : Objs) (next : Nat) (forb : CellP), QCalls ρ P f args objs next forb (fun o O m => o = .ret v ∧ O = objs ∧ m = next)

/-- A truth value is handed on as what it is. -/
noncomputable def outK (v : V) (k : V → Ans) : Ans := match v with
  | .bool b => boolK b (k (.bool true)) (k (.bool false))
  | v => k v
theorem outK_inv {v : V} {k : V → Ans} (h : outK v k = .ok) : k v = .ok := by
  unfold outK at h
  split at h
  · rcases boolK_inv h with ⟨rfl, h⟩ | ⟨rfl, h⟩ <;> exact h
  · exact h

/-- An answer under a condition that is asked for. -/
noncomputable def ovF (F : List V → Option (Bool × V)) : OvT := fun args _ hp nx kr _ => match F args with
  | some (c, v) => must c (outK v fun v => kr v hp nx)
  | none => .err 1

theorem ov_says {f : FuncId} {F : List V → Option (Bool × V)} (h : ∀ args v, F args = some (true, v) → Says ρ P f args v) : OvOK ρ P f (ovF F) := by
  intro args forb hp nx kr kp hk
  unfold ovF at hk
  split at hk
  · rename_i c v hv
    obtain ⟨hc, hk2⟩ := must_inv hk
    subst hc
    refine (h args v hv (absO hp) nx (inL forb)).mono ?_
    rintro o O m ⟨e1, e2, e3⟩
    subst e1 e2 e3
    exact ⟨hp, rfl, outK_inv hk2⟩
  · exact Ans.no hk

theorem says_frame {f : FuncId} {args : List V} {v' : V} (hargs : ∀ q ∈ args, Arg2 [] q q) (h : QCalls ρ P f args (fun _ => none) 0 (fun _ _ _ => False) (fun o O m => ∃ v, o = .ret v ∧ Frz (fun _ => True) O v v')) : Says ρ P f args v' := by
  intro objs next forb
  have h2 : QCalls ρ P f args (fun i : Nat => ([] : List Ob)[i]?) ([] : List Ob).length (fun _ _ _ => False) (Inner ([] : List Ob).length fun o _ => o = .ret v') := by
    have e : (fun i : Nat => ([] : List Ob)[i]?) = fun _ => none := by funext i; simp
    rw [e]
    refine h.mono ?_
    rintro o O m ⟨v, rfl, hv⟩
    refine ⟨.ret v', [], .ret ?_, rfl, fun i ob' hi => by simp at hi, rfl⟩
    have e2 : (fun j => ([] : List Ob).length ≤ j) = fun _ => True := by funext j; simp
    rw [e2]
    exact hv
  refine (frame (κ := []) List.nodup_nil rfl (fun ob hob => by cases hob) ⟨rfl, fun i q q' h1 h2 => ?_⟩ h2 (fun i k hi => by simp at hi) (fun i k r c hi => by simp at hi)).mono ?_
  · rw [h1] at h2
    cases h2
    exact hargs q (List.mem_of_getElem? h1)
  · rintro o O m ⟨obs', _, rfl, rfl, rfl⟩
    exact ⟨rfl, by cases obs' <;> rfl, rfl⟩

/-- A body that runs to its end. -/
theorem says_run (hm : P.follows .mixedOrders = true) {G : Gl} (hG : GOK' P G) {call : CallT} (hc : CallOK ρ P call) {f : FuncId} {args : List V} {v' : V} (hargs : ∀ q ∈ args, Arg2 [] q q)
    (h : (bdy P G f).run call args [] hp0 0 (fun v hp _ => okIf (Frz (fun _ => True) (absO hp) v v')) (fun _ _ _ => .err 8) = .ok) : Says ρ P f args v' := by
  refine says_frame hargs ?_
  have := bdy_sound (ρ := ρ) hm hG hc h
  rw [absO_hp0, inL_nil] at this
  refine this.mono fun o O m hr => ?_
  cases o with
  | ret v =>
    obtain ⟨hp, rfl, h⟩ := hr
    exact ⟨v, rfl, okIf_inv h⟩
  | panic v =>
    obtain ⟨hp, _, h⟩ := hr
    exact Ans.no h

/-! ### Receivers -/

def hpR (row : List V) : Hp := put4 hp0 0 (.cell row)
theorem absO_hpR (row : List V) : absO (hpR row) = fun i => [boxOb row][i]? := by
  unfold hpR
  rw [absO_put (by omega), absO_hp0]
  funext i
  unfold Objs.put
  cases i with
  | zero => rfl
  | succ i => simp

/-- A row behind the call, as what it holds. -/
def FrzRow (O : Objs) (row' : List V) : Prop := ∃ row0, O 0 = some (boxOb row0) ∧ row'.length = row0.length ∧ ∀ (c : Nat) (q q' : V), row0[c]? = some q → row'[c]? = some q' → FrzC (fun j => 1 ≤ j) O q q'

/-- Of a receiver with the cells of row this is answered, and then its cells are those of row'; fi: the cells of it that are let alone. -/
def SaysM (ρ : Nat → Value) (P : Program) (f : FuncId) (fi : Nat → Nat → Prop) (row args : List V) (v : V) (row' : List V) : Prop :=
  ∀ (objs : Objs) (next : Nat) (forb : CellP) (k : Nat), objs k = some (boxOb row) → (∀ r c, forb k r c → fi r c) →
    QCalls ρ P f (.ptr k 0 0 :: args) objs next forb (fun o O m => o = .ret v ∧ O = Objs.put objs k (some (boxOb row')) ∧ m = next)

theorem Arg2.weak {κ : List Nat} {q q' : V} (h : Arg2 [] q q') : Arg2 κ q q' := by
  induction h with
  | flat q h => exact .flat q h
  | fn f => exact .fn f
  | ptr i k r c h => simp at h
  | sl i k off len full h => simp at h
  | agg l l' hl h ih => exact .agg l l' hl ih

theorem boxOb_row {row : List V} {r : Nat} {x : List V} (h : (boxOb row).row r = some x) : r = 0 ∧ x = row := by
  unfold boxOb at h
  cases r with
  | zero => simp at h; exact ⟨rfl, h.symm⟩
  | succ r => simp at h

theorem saysM_run (hm : P.follows .mixedOrders = true) {G : Gl} (hG : GOK' P G) {call : CallT} (hc : CallOK ρ P call) {f : FuncId} {fb : List PC} {row args row' : List V} {v' : V} (hrow : ∀ q ∈ row, q.flat = true) (hargs : ∀ q ∈ args, Arg2 [] q q)
    (h : (bdy P G f).run call (.ptr 0 0 0 :: args) fb (hpR row) 1 (fun v hp _ => okIf (Frz (fun j => 1 ≤ j) (absO hp) v v' ∧ FrzRow (absO hp) row')) (fun _ _ _ => .err 8) = .ok) : SaysM ρ P f (inL fb 0) row args v' row' := by
  intro objs next forb k hk hf
  have h1 := bdy_sound (ρ := ρ) hm hG hc h
  rw [absO_hpR] at h1
  have h2 : QCalls ρ P f (.ptr 0 0 0 :: args) (fun i => [boxOb row][i]?) [boxOb row].length (inL fb) (Inner [boxOb row].length fun o obs => o = .ret v' ∧ obs = [boxOb row']) := by
    refine h1.mono fun o O m hr => ?_
    cases o with
    | ret v =>
      obtain ⟨hp, rfl, h⟩ := hr
      obtain ⟨g1, row0, g2, g3, g4⟩ := okIf_inv h
      refine ⟨.ret v', [boxOb row'], .ret g1, rfl, fun i ob' hi => ?_, rfl, rfl⟩
      cases i with
      | zero =>
        simp at hi
        subst hi
        refine ⟨boxOb row0, g2, by show row'.length = row0.length; exact g3, rfl, rfl, fun r x hx => ?_⟩
        obtain ⟨rfl, rfl⟩ := boxOb_row hx
        exact ⟨row0, rfl, g3, g4⟩
      | succ i => simp at hi
    | panic v =>
      obtain ⟨hp, _, h⟩ := hr
      exact Ans.no h
  refine (frame (κ := [k]) (args := .ptr 0 0 0 :: args) (args' := .ptr k 0 0 :: args) (List.nodup_cons.mpr ⟨by simp, List.nodup_nil⟩) rfl (fun ob hob => ?_) ⟨rfl, fun i q q' h1 h2 => ?_⟩ h2 (fun i j hi => ?_) (fun i j r c hi hfb => ?_)).mono ?_
  · simp at hob
    subst hob
    refine ⟨rfl, fun r x hx => ?_⟩
    obtain ⟨rfl, rfl⟩ := boxOb_row hx
    exact hrow
  · cases i with
    | zero =>
      simp at h1 h2
      subst h1 h2
      exact .ptr 0 k 0 0 rfl
    | succ i =>
      simp at h1 h2
      rw [h1] at h2
      cases h2
      have := hargs q (List.mem_of_getElem? h1)
      exact this.weak
  · cases i with
    | zero => simp at hi; subst hi; exact hk
    | succ i => simp at hi
  · cases i with
    | zero => simp at hi; subst hi; exact hf r c hfb
    | succ i => simp at hi
  · rintro o O m ⟨obs', _, ⟨rfl, rfl⟩, rfl, rfl⟩
    exact ⟨rfl, rfl, rfl⟩

/-- A receiver's answer as the evaluator asks for it. -/
noncomputable def ovM (F : List V → List V → Option (Bool × V × List V)) : OvT := fun args forb hp nx kr _ => match args with
  | .ptr k 0 0 :: args => (acc4 KOb k).get hp fun ob => match ob with
    | .cell row => match F row args with
      | some (c, v, row') => must c (noneK k forb ((acc4 KOb k).upd hp (.cell row') fun hp' => outK v fun v => kr v hp' nx))
      | none => .err 2
    | _ => .err 3
  | _ => .err 4

theorem ov_saysM {f : FuncId} {F : List V → List V → Option (Bool × V × List V)} (h : ∀ row args v row', F row args = some (true, v, row') → SaysM ρ P f (fun _ _ => False) row args v row') : OvOK ρ P f (ovM F) := by
  intro args forb hp nx kr kp hk
  unfold ovM at hk
  split at hk
  · rename_i k args
    obtain ⟨hlt, hk⟩ := acc4_get hk
    split at hk
    · rename_i ob row hob
      split at hk
      · rename_i c v row' hF
        obtain ⟨hc, hk2⟩ := must_inv hk
        subst hc
        obtain ⟨hn, hk3⟩ := noneK_inv hk2
        obtain ⟨_, hk4⟩ := acc4_upd hk3
        have hk5 := outK_inv hk4
        refine (h row args v row' hF (absO hp) nx (inL forb) k ?_ (fun r c hx => (hn r c hx).elim)).mono ?_
        · unfold absO
          rw [if_pos hlt, hob]
          rfl
        · rintro o O m ⟨rfl, rfl, rfl⟩
          exact ⟨put4 hp k (.cell row'), by rw [absO_put hlt]; rfl, hk5⟩
      · exact Ans.no hk
    · exact Ans.no hk
  · exact Ans.no hk

/-! ### What is known of packed texts -/

theorem Says.wf {f : FuncId} {args : List V} {v : V} {i len n : Nat} (hi : args[i]? = some (.ps len n)) (h : n < 256 ^ len → Says ρ P f args v) : Says ρ P f args v := by
  intro objs next forb w A T vals h1 h2 h3 h4
  exact h (rep_ps (h4 i _ hi)).2 objs next forb w A T vals h1 h2 h3 h4

theorem SaysM.wf {f : FuncId} {fi : Nat → Nat → Prop} {row args row' : List V} {v : V} {i len n : Nat} (hi : row[i]? = some (.ps len n)) (h : n < 256 ^ len → SaysM ρ P f fi row args v row') : SaysM ρ P f fi row args v row' := by
  intro objs next forb k hk hf w A T vals h1 h2 h3 h4
  obtain ⟨p, g1, g2, g3, hcs, _⟩ := h1.obj k _ hk
  obtain ⟨C, t, g4, g5⟩ := hcs rfl
  obtain ⟨g6, g7, g8⟩ := g5 0 row rfl
  obtain ⟨x, g9, g10⟩ := g8 i _ hi
  exact h (rep_ps g10).2 objs next forb k hk hf w A T vals h1 h2 h3 h4

theorem part_eq {n len k : Nat} (h : n < 256 ^ len) (hk : k ≤ len) : n / 256 ^ k % 256 ^ (len - k) = n / 256 ^ k := by
  refine Nat.mod_eq_of_lt (Nat.div_lt_of_lt_mul ?_)
  rw [← Nat.pow_add]
  rwa [show k + (len - k) = len by omega]

theorem part_lt {n len k : Nat} (h : n < 256 ^ len) (hk : k ≤ len) : n / 256 ^ k < 256 ^ (len - k) := by
  rw [← part_eq h hk]
  exact Nat.mod_lt _ (Nat.pow_pos (by omega))
theorem byte0 (n : Nat) : n / 256 ^ 0 % 256 = n % 256 := by rw [Nat.pow_zero, Nat.div_one]

/-! ### Ends -/

theorem frz_nil {N : Nat → Prop} {O : Objs} : Frz N O (.tup []) (.tup []) := .tup _ _ rfl fun i q q' h => by simp at h
theorem frz_cons {N : Nat → Prop} {O : Objs} {q q' : V} {l l' : List V} (h : Frz N O q q') (hl : Frz N O (.tup l) (.tup l')) : Frz N O (.tup (q :: l)) (.tup (q' :: l')) := by
  cases hl with
  | flat _ h => cases h
  | cell h => cases h with | same _ h => cases h
  | tup _ _ h1 h2 =>
    refine .tup _ _ (by simp [h1]) fun i p p' g1 g2 => ?_
    cases i with
    | zero => simp at g1 g2; subst g1 g2; exact h
    | succ i => exact h2 i p p' (by simpa using g1) (by simpa using g2)
theorem frz_agg {N : Nat → Prop} {O : Objs} {l l' : List V} (hl : Frz N O (.tup l) (.tup l')) : Frz N O (.agg l) (.agg l') := by
  cases hl with
  | flat _ h => cases h
  | cell h => cases h with | same _ h => cases h
  | tup _ _ h1 h2 => exact .agg _ _ h1 h2

/-- The receiver's row, cell by cell. -/
theorem frz_row {O : Objs} {row row0 : List V} (h : O 0 = some (boxOb row0)) (e : row = row0) (hf : ∀ q ∈ row, q.flat = true ∧ q.one = true) : FrzRow O row := by
  subst e
  refine ⟨row, h, rfl, fun c q q' h1 h2 => ?_⟩
  rw [h1] at h2
  cases h2
  have := hf q (List.mem_of_getElem? h1)
  exact .same q this.2 this.1



theorem frz_bool {N : Nat → Prop} {O : Objs} {b b' : Bool} (e : b = b') : Frz N O (.bool b) (.bool b') := by subst e; exact .flat _ rfl
theorem frz_int {N : Nat → Prop} {O : Objs} {k : IntKind} {b b' : Int} (e : b = b') : Frz N O (.int k b) (.int k b') := by subst e; exact .flat _ rfl
theorem frz_ps {N : Nat → Prop} {O : Objs} {l l' n n' : Nat} (e : l = l') (e' : n = n') : Frz N O (.ps l n) (.ps l' n') := by subst e e'; exact .flat _ rfl

/-- A list of rows that was made afresh. -/
theorem frz_ls {hp : Hp} {k len es s : Nat} {full : Bool} {rows0 rows : List (List V)} (hk : k < 65536) (hes : es = s) (hr : rows0 = rows) (hl : rows.length = len) (hf : ∀ row ∈ rows, ∀ q ∈ row, q.flat = true ∧ q.one = true) :
    Frz (fun _ => True) (absO (put4 hp k (.ls es rows0))) (.sl k 0 len full) (.ro s rows) := by
  subst hes hr
  have ho : absO (put4 hp k (.ls es rows0)) k = some ⟨es, fun r => rows0[r]?, false⟩ := by
    unfold absO
    rw [if_pos hk, get4_same hk]
    rfl
  have e : (V.ro es rows0) = V.ro (Ob.mk es (fun r => rows0[r]?) false).s rows0 := rfl
  rw [e]
  refine .cell (.sl k 0 len full ⟨es, fun r => rows0[r]?, false⟩ rows0 (fun r => (rows0[r]?).getD []) trivial ho rfl hl (fun r row' h => ⟨?_, ?_⟩) fun r row' h c q q' h1 h2 => ?_)
  · show rows0[0 + r]? = _
    rw [Nat.zero_add, h]
    rfl
  · rw [h]
    rfl
  · have h1 : ((rows0[r]?).getD [])[c]? = some q := h1
    rw [h] at h1
    have h1 : row'[c]? = some q := h1
    rw [h1] at h2
    cases h2
    have := hf row' (List.mem_of_getElem? h) q (List.mem_of_getElem? h1)
    exact .same q this.2 this.1

end Go.Proofs.YtibmbbogjkecoaaDoor.M

/- What a closed run answers, said by its content: results that are made afresh, row by row. -/
namespace Go.Proofs.YtibmbbogjkecoaaDoor.M
open Go Go.RowKit
set_option linter.unusedSimpArgs false
set_option linter.unusedVariables false

variable {ρ : Nat → Value} {P : Program}

/-- The same value, of those without objects that a kernel can tell apart. -/
def eqFl : V → V → Bool
  | .int k n, .int k' n' => Nat.beq (numK k) (numK k') && decide (n = n')
  | .bool b, .bool b' => b == b'
  | .ps l n, .ps l' n' => Nat.beq l l' && Nat.beq n n'
  | .sc (.slice none 0 0), .sc (.slice none 0 0) => true
  | .sc (.pointer none), .sc (.pointer none) => true
  | .sc .nilIface, .sc .nilIface => true
  | _, _ => false
theorem eqFl_ok {a b : V} (h : eqFl a b = true) : a = b ∧ a.flat = true ∧ a.one = true := by
  unfold eqFl at h
  split at h
  · simp only [Bool.and_eq_true, decide_eq_true_eq] at h
    obtain ⟨h1, h2⟩ := h
    have := numK_inj h1
    subst this h2
    exact ⟨rfl, rfl, rfl⟩
  · simp at h
    subst h
    exact ⟨rfl, rfl, rfl⟩
  · simp only [Bool.and_eq_true, Nat.beq_eq] at h
    obtain ⟨h1, h2⟩ := h
    subst h1 h2
    exact ⟨rfl, rfl, rfl⟩
  · exact ⟨rfl, rfl, rfl⟩
  · exact ⟨rfl, rfl, rfl⟩
  · exact ⟨rfl, rfl, rfl⟩
  · cases h
def eqRowL : List V → List V → Bool
  | [], [] => true
  | a :: l, b :: m => eqFl a b && eqRowL l m
  | _, _ => false
theorem eqRowL_ok : ∀ {a b : List V}, eqRowL a b = true → a = b ∧ ∀ q ∈ a, q.flat = true ∧ q.one = true
  | [], [], _ => ⟨rfl, by simp⟩
  | a :: l, b :: m, h => by
    simp only [eqRowL, Bool.and_eq_true] at h
    obtain ⟨h1, h2⟩ := h
    obtain ⟨rfl, g1, g2⟩ := eqFl_ok h1
    obtain ⟨rfl, g3⟩ := eqRowL_ok h2
    exact ⟨rfl, fun q hq => by
      rcases List.mem_cons.mp hq with rfl | hq
      · exact ⟨g1, g2⟩
      · exact g3 q hq⟩
  | [], _ :: _, h => by cases h
  | _ :: _, [], h => by cases h
def eqRowsL : List (List V) → List (List V) → Bool
  | [], [] => true
  | a :: l, b :: m => eqRowL a b && eqRowsL l m
  | _, _ => false
theorem eqRowsL_ok : ∀ {a b : List (List V)}, eqRowsL a b = true → a = b ∧ ∀ row ∈ a, ∀ q ∈ row, q.flat = true ∧ q.one = true
  | [], [], _ => ⟨rfl, by simp⟩
  | a :: l, b :: m, h => by
    simp only [eqRowsL, Bool.and_eq_true] at h
    obtain ⟨h1, h2⟩ := h
    obtain ⟨rfl, g1⟩ := eqRowL_ok h1
    obtain ⟨rfl, g3⟩ := eqRowsL_ok h2
    exact ⟨rfl, fun q hq => by
      rcases List.mem_cons.mp hq with rfl | hq
      · exact g1
      · exact g3 q hq⟩
  | [], _ :: _, h => by cases h
  | _ :: _, [], h => by cases h

/-- A slice of an object's rows, as what nobody writes. -/
theorem frz_rows {hp : Hp} {j off len : Nat} {full : Bool} {x : Ob} {rows : List (List V)} (hj : absO hp j = some x) (hmp : x.mp = false) (hl : rows.length = len) (hr : ∀ r, r < len → x.row (off + r) = rows[r]?) (hf : ∀ row ∈ rows, ∀ q ∈ row, q.flat = true ∧ q.one = true) :
    Frz (fun _ => True) (absO hp) (.sl j off len full) (.ro x.s rows) := by
  refine .cell (.sl j off len full x rows (fun r => (rows[r]?).getD []) trivial hj hmp hl (fun r row' h => ?_) fun r row' h c q q' h1 h2 => ?_)
  · have hlt := lt_of_get h
    rw [h]
    exact ⟨by rw [hr r (by omega), h]; rfl, rfl⟩
  · have h1 : ((rows[r]?).getD [])[c]? = some q := h1
    rw [h] at h1
    have h1 : row'[c]? = some q := h1
    rw [h1] at h2
    cases h2
    have := hf row' (List.mem_of_getElem? h) q (List.mem_of_getElem? h1)
    exact .same q this.2 this.1

/-- Is it that? Of a value without objects, or of a slice of rows of such. -/
noncomputable def isV (v : V) (hp : Hp) (v' : V) : Ans := match v' with
  | .ro s rows0 => v.onNilS (fun j off len _ => (acc4 KOb j).get hp fun ob => ob.ofS s (rowsK ob len off fun rows => must (eqRowsL rows rows0) .ok)) (fun s' rows => must (Nat.beq s' s) (must (eqRowsL rows rows0) .ok)) (fun _ => .err 160)
  | v' => must (eqFl v v') .ok
theorem isV_ok {v v' : V} {hp : Hp} (h : isV v hp v' = .ok) : Frz (fun _ => True) (absO hp) v v' := by
  unfold isV at h
  split at h
  · rename_i s rows0
    rcases V.onNilS_inv h with ⟨j, off, len, full, rfl, h9⟩ | ⟨s', rows, rfl, h9⟩ | ⟨w, _, h9⟩
    · obtain ⟨ob, h1, h9⟩ := ob_inv h9
      obtain ⟨⟨x, h2, hmp, h3⟩, h9⟩ := KOb.ofS_inv h9
      obtain ⟨rows, h4, h5, h9⟩ := rowsK_inv h2 h9
      obtain ⟨h6, _⟩ := must_inv h9
      obtain ⟨rfl, h7⟩ := eqRowsL_ok h6
      subst h3
      exact frz_rows (h1.trans h2) hmp h4 h5 h7
    · obtain ⟨h1, h9⟩ := must_inv h9
      obtain ⟨h2, _⟩ := must_inv h9
      have h1 := Nat.eq_of_beq_eq_true h1
      obtain ⟨e2, _⟩ := eqRowsL_ok h2
      subst h1 e2
      exact .flat _ rfl
    · exact Ans.no h9
  · obtain ⟨h1, _⟩ := must_inv h
    obtain ⟨rfl, h2, _⟩ := eqFl_ok h1
    exact .flat _ h2

/-- A closed run says what it answers. -/
theorem says_told (hm : P.follows .mixedOrders = true) {G : Gl} (hG : GOK' P G) {call : CallT} (hc : CallOK ρ P call) {f : FuncId} {args : List V} {v' : V} (hargs : ∀ q ∈ args, Arg2 [] q q)
    (h : isOk ((bdy P G f).run call args [] hp0 0 (fun v hp _ => isV v hp v') (fun _ _ _ => .err 8)) = true) : Says ρ P f args v' := by
  refine says_frame hargs ?_
  have := bdy_sound (ρ := ρ) hm hG hc (isOk_ok h)
  rw [absO_hp0, inL_nil] at this
  refine this.mono fun o O m hr => ?_
  cases o with
  | ret v =>
    obtain ⟨hp, rfl, h⟩ := hr
    exact ⟨v, rfl, isV_ok h⟩
  | panic v =>
    obtain ⟨hp, _, h⟩ := hr
    exact Ans.no h

/-! ### Tuples; runs in which some functions' answers are told -/

noncomputable def andK (a b : Ans) : Ans := Ans.rec (motive := fun _ => AnsT) b (fun n => .err n) a
theorem andK_inv {a b : Ans} (h : andK a b = .ok) : a = .ok ∧ b = .ok := by
  cases a with
  | ok => exact ⟨rfl, h⟩
  | err n => cases h

noncomputable def isVs (hp : Hp) : List V → List V → Ans
  | [], [] => .ok
  | a :: l, b :: m => andK (isV a hp b) (isVs hp l m)
  | _, _ => .err 161
theorem isVs_ok {hp : Hp} : ∀ {l m : List V}, isVs hp l m = .ok → Frz (fun _ => True) (absO hp) (.tup l) (.tup m)
  | [], [], _ => frz_nil
  | a :: l, b :: m, h => by
    obtain ⟨h1, h2⟩ := andK_inv h
    exact frz_cons (isV_ok h1) (isVs_ok h2)
  | [], _ :: _, h => by cases h
  | _ :: _, [], h => by cases h

noncomputable def isT (v : V) (hp : Hp) (v' : V) : Ans := match v' with
  | .tup m => v.onTup fun l => isVs hp l m
  | v' => isV v hp v'
theorem isT_ok {v v' : V} {hp : Hp} (h : isT v hp v' = .ok) : Frz (fun _ => True) (absO hp) v v' := by
  unfold isT at h
  split at h
  · obtain ⟨l, rfl, h⟩ := V.onTup_inv h
    exact isVs_ok h
  · exact isV_ok h

theorem says_toldT (hm : P.follows .mixedOrders = true) {G : Gl} (hG : GOK' P G) {call : CallT} (hc : CallOK ρ P call) {f : FuncId} {args : List V} {v' : V} (hargs : ∀ q ∈ args, Arg2 [] q q)
    (h : isOk ((bdy P G f).run call args [] hp0 0 (fun v hp _ => isT v hp v') (fun _ _ _ => .err 8)) = true) : Says ρ P f args v' := by
  refine says_frame hargs ?_
  have := bdy_sound (ρ := ρ) hm hG hc (isOk_ok h)
  rw [absO_hp0, inL_nil] at this
  refine this.mono fun o O m hr => ?_
  cases o with
  | ret v =>
    obtain ⟨hp, rfl, h⟩ := hr
    exact ⟨v, rfl, isT_ok h⟩
  | panic v =>
    obtain ⟨hp, _, h⟩ := hr
    exact Ans.no h

/-- A run in which what 'ov' tells is told. -/
noncomputable def runW (P : Program) (G : Gl) (ov : CallT → CallT) (n : Nat) : CallT :=
  Nat.rec (motive := fun _ => CallT) (ov fun _ _ _ _ _ _ _ => .err 81) (fun _ ih => ov fun f args forb hp nx kr kp => (bdy P G f).run ih args forb hp nx kr kp) n
theorem runW_ok (hm : P.follows .mixedOrders = true) {G : Gl} (hG : GOK' P G) {ov : CallT → CallT} (ho : ∀ c, CallOK ρ P c → CallOK ρ P (ov c)) : ∀ n, CallOK ρ P (runW P G ov n)
  | 0 => ho _ fun f args forb hp nx kr kp h => Ans.no h
  | n + 1 => ho _ fun f args forb hp nx kr kp h => bdy_sound hm hG (runW_ok hm hG ho n) h

end Go.Proofs.YtibmbbogjkecoaaDoor.M

/- What the lexers reckon, on bytes packed into numbers. -/
namespace Go.Proofs.YtibmbbogjkecoaaDoor.M
open Go

def letterB (c : Nat) : Bool := Nat.ble 97 c && Nat.ble c 122
def digitB (c : Nat) : Bool := Nat.ble 48 c && Nat.ble c 57
def innerB (c : Nat) : Bool := letterB c || digitB c || Nat.beq c 95
def lineB (c : Nat) : Bool := !Nat.beq c 10

/-- How many of the first bytes are of a kind. -/
def runP (p : Nat → Bool) : Nat → Nat → Nat
  | 0, _ => 0
  | l + 1, n => match p (n % 256) with
    | true => runP p l (n / 256) + 1
    | false => 0

theorem runP_le (p : Nat → Bool) : ∀ l n, runP p l n ≤ l
  | 0, _ => Nat.le_refl _
  | l + 1, n => by
    unfold runP
    split
    · have := runP_le p l (n / 256); omega
    · omega

/-- Behind so many of them. -/
theorem runP_step {p : Nat → Bool} : ∀ {i l n : Nat}, i < l → i + runP p (l - i) (n / 256 ^ i) = (match p (n / 256 ^ i % 256) with | true => i + 1 + runP p (l - (i + 1)) (n / 256 ^ (i + 1)) | false => i) := by
  intro i l n h
  obtain ⟨m, hm⟩ : ∃ m, l - i = m + 1 := ⟨l - i - 1, by omega⟩
  rw [hm, show l - (i + 1) = m by omega]
  rw [Nat.pow_succ, ← Nat.div_div_eq_div_mul]
  show i + (match p (n / 256 ^ i % 256) with | true => runP p m (n / 256 ^ i / 256) + 1 | false => 0) = _
  cases p (n / 256 ^ i % 256) with
  | true => show i + (runP p m (n / 256 ^ i / 256) + 1) = i + 1 + runP p m (n / 256 ^ i / 256); omega
  | false => rfl

/-- Behind all that parts tokens. -/
def blanksF : Nat → Nat → Nat → Nat → Nat → Nat × Nat × Nat × Nat
  | 0, l, n, line, col => (l, n, line, col)
  | f + 1, l, n, line, col => match Nat.beq l 0 with
    | true => (l, n, line, col)
    | false => match Nat.beq (n % 256) 32 || Nat.beq (n % 256) 9 with
      | true => blanksF f (l - 1) (n / 256) line (col + 1)
      | false => match Nat.beq (n % 256) 10 with
        | true => blanksF f (l - 1) (n / 256) (line + 1) 1
        | false => match Nat.beq (n % 256) 35 with
          | true => blanksF f (l - runP lineB l n) (n / 256 ^ runP lineB l n) line (col + runP lineB l n)
          | false => (l, n, line, col)

theorem blanks_blank {f l n line col : Nat} (h : 0 < l) (hb : n % 256 = 32 ∨ n % 256 = 9) : blanksF (f + 1) l n line col = blanksF f (l - 1) (n / 256) line (col + 1) := by
  have h1 : Nat.beq l 0 = false := beq_false_iff.mpr (by omega)
  have h2 : (Nat.beq (n % 256) 32 || Nat.beq (n % 256) 9) = true := by rw [Bool.or_eq_true, Nat.beq_eq, Nat.beq_eq]; exact hb
  simp only [blanksF, h1, h2]
theorem blanks_line {f l n line col : Nat} (h : 0 < l) (hb : n % 256 = 10) : blanksF (f + 1) l n line col = blanksF f (l - 1) (n / 256) (line + 1) 1 := by
  have h1 : Nat.beq l 0 = false := beq_false_iff.mpr (by omega)
  simp only [blanksF, h1, hb, Nat.beq_refl]
  rfl
theorem blanks_word {f l n line col : Nat} (h : 0 < l) (hb : n % 256 = 35) : blanksF (f + 1) l n line col = blanksF f (l - runP lineB l n) (n / 256 ^ runP lineB l n) line (col + runP lineB l n) := by
  have h1 : Nat.beq l 0 = false := beq_false_iff.mpr (by omega)
  simp only [blanksF, h1, hb]
  rfl
theorem blanks_end {f l n line col : Nat} (hb : l = 0 ∨ n % 256 ≠ 32 ∧ n % 256 ≠ 9 ∧ n % 256 ≠ 10 ∧ n % 256 ≠ 35) : blanksF f l n line col = (l, n, line, col) := by
  cases f with
  | zero => rfl
  | succ f =>
    rcases hb with rfl | ⟨h1, h2, h3, h4⟩
    · rfl
    · cases e : Nat.beq l 0 with
      | true => simp only [blanksF, e]
      | false =>
        have e1 := beq_false_iff.mpr h1
        have e2 := beq_false_iff.mpr h2
        have e3 := beq_false_iff.mpr h3
        have e4 := beq_false_iff.mpr h4
        simp only [blanksF, e, e1, e2, e3, e4, Bool.or_self]

theorem runP_all {p : Nat → Bool} : ∀ {len n i : Nat}, runP p len n = len → i < len → p (n / 256 ^ i % 256) = true
  | 0, _, _, _, h => by omega
  | len + 1, n, i, hr, hi => by
    simp only [runP] at hr
    cases e : p (n % 256) with
    | false => rw [e] at hr; simp at hr
    | true =>
      rw [e] at hr
      simp only at hr
      cases i with
      | zero => simpa using e
      | succ i =>
        have := runP_all (p := p) (len := len) (n := n / 256) (i := i) (by omega) (by omega)
        rw [Nat.div_div_eq_div_mul, Nat.mul_comm, ← Nat.pow_succ] at this
        exact this

/-- What digits are, behind a number. -/
def numP : Nat → Nat → Nat → Nat
  | 0, _, a => a
  | l + 1, n, a => numP l (n / 256) (a * 10 + (n % 256 - 48))

theorem numP_step {i l n a : Nat} (h : i < l) : numP (l - i) (n / 256 ^ i) a = numP (l - (i + 1)) (n / 256 ^ (i + 1)) (a * 10 + (n / 256 ^ i % 256 - 48)) := by
  obtain ⟨m, hm⟩ : ∃ m, l - i = m + 1 := ⟨l - i - 1, by omega⟩
  rw [hm, show l - (i + 1) = m by omega, Nat.pow_succ, ← Nat.div_div_eq_div_mul]
  rfl

theorem mod_mod256 {n k : Nat} (h : 0 < k) : n % 256 ^ k % 256 = n % 256 := by
  obtain ⟨j, rfl⟩ : ∃ j, k = j + 1 := ⟨k - 1, by omega⟩
  rw [Nat.pow_succ, Nat.mul_comm]
  exact Nat.mod_mul_right_mod n 256 (256 ^ j)
theorem mod_div256 {n k : Nat} : n % 256 ^ (k + 1) / 256 = n / 256 % 256 ^ k := by
  rw [Nat.pow_succ, Nat.mul_comm]
  exact Nat.mod_mul_right_div_self n 256 (256 ^ k)

theorem runP_mod {p : Nat → Bool} : ∀ {l k n : Nat}, l ≤ k → runP p l (n % 256 ^ k) = runP p l n
  | 0, _, _, _ => rfl
  | l + 1, k, n, h => by
    obtain ⟨j, rfl⟩ : ∃ j, k = j + 1 := ⟨k - 1, by omega⟩
    simp only [runP, mod_mod256 (show 0 < j + 1 by omega), mod_div256, runP_mod (show l ≤ j by omega)]

/-- So many of the first ones are of a kind: of so many, all. -/
theorem runP_self {p : Nat → Bool} : ∀ {l n : Nat}, runP p (runP p l n) n = runP p l n
  | 0, _ => rfl
  | l + 1, n => by
    cases e : p (n % 256) with
    | false => simp [runP, e]
    | true => simp [runP, e, runP_self (l := l) (n := n / 256)]

/-- Is a byte a sign? -/
def signB (c : Nat) : Bool := match c with
  | 40 | 41 | 123 | 125 | 91 | 93 | 44 | 59 | 58 | 61 | 46 | 43 | 45 | 42 | 60 | 94 | 33 | 63 => true
  | _ => false

/-- The token at the beginning: its kind, its number, how long it is. -/
def tokM (len n : Nat) : Option (Nat × Nat × Nat) :=
  match Nat.beq len 0 with
  | true => some (4, 0, 0)
  | false => match letterB (n % 256) with
    | true => match Nat.ble (runP innerB len n) 16 with
      | true => some (1, 0, runP innerB len n)
      | false => none
    | false => match digitB (n % 256) with
      | true => match Nat.ble (runP digitB len n) 9 && !(Nat.beq (n % 256) 48 && Nat.ble 2 (runP digitB len n)) with
        | true => some (2, numP (runP digitB len n) (n % 256 ^ runP digitB len n) 0, runP digitB len n)
        | false => none
      | false => match signB (n % 256) with
        | true => some (3, 0, 1)
        | false => none

theorem tok_word {len n : Nat} (h0 : 0 < len) (h1 : letterB (n % 256) = true) (h2 : runP innerB len n ≤ 16) : tokM len n = some (1, 0, runP innerB len n) := by
  simp only [tokM, beq_false_iff.mpr (show len ≠ 0 by omega), h1, Nat.ble_eq_true_of_le h2]
theorem tok_wordNo {len n : Nat} (h0 : 0 < len) (h1 : letterB (n % 256) = true) (h2 : 16 < runP innerB len n) : tokM len n = none := by
  simp only [tokM, beq_false_iff.mpr (show len ≠ 0 by omega), h1, ble_false_iff.mpr h2]
theorem tok_num {len n : Nat} (h0 : 0 < len) (h1 : letterB (n % 256) = false) (h2 : digitB (n % 256) = true) (h3 : runP digitB len n ≤ 9) (h4 : n % 256 ≠ 48 ∨ runP digitB len n ≤ 1) :
    tokM len n = some (2, numP (runP digitB len n) (n % 256 ^ runP digitB len n) 0, runP digitB len n) := by
  have h5 : (Nat.beq (n % 256) 48 && Nat.ble 2 (runP digitB len n)) = false := by
    rcases h4 with h | h
    · rw [beq_false_iff.mpr h, Bool.false_and]
    · rw [ble_false_iff.mpr (show runP digitB len n < 2 by omega), Bool.and_false]
  simp only [tokM, beq_false_iff.mpr (show len ≠ 0 by omega), h1, h2, Nat.ble_eq_true_of_le h3, h5, Bool.not_false, Bool.and_self]
theorem tok_numNo {len n : Nat} (h0 : 0 < len) (h1 : letterB (n % 256) = false) (h2 : digitB (n % 256) = true) (h3 : 9 < runP digitB len n ∨ n % 256 = 48 ∧ 1 < runP digitB len n) : tokM len n = none := by
  have h5 : (Nat.ble (runP digitB len n) 9 && !(Nat.beq (n % 256) 48 && Nat.ble 2 (runP digitB len n))) = false := by
    rcases h3 with h | ⟨h, h'⟩
    · rw [ble_false_iff.mpr h, Bool.false_and]
    · rw [h, Nat.ble_eq_true_of_le (show 2 ≤ runP digitB len n by omega), Nat.beq_refl, Bool.and_self, Bool.not_true, Bool.and_false]
  simp only [tokM, beq_false_iff.mpr (show len ≠ 0 by omega), h1, h2, h5]
theorem tok_sign {len n : Nat} (h0 : 0 < len) (h1 : letterB (n % 256) = false) (h2 : digitB (n % 256) = false) (h3 : signB (n % 256) = true) : tokM len n = some (3, 0, 1) := by
  simp only [tokM, beq_false_iff.mpr (show len ≠ 0 by omega), h1, h2, h3]
theorem tok_none {len n : Nat} (h0 : 0 < len) (h1 : letterB (n % 256) = false) (h2 : digitB (n % 256) = false) (h3 : signB (n % 256) = false) : tokM len n = none := by
  simp only [tokM, beq_false_iff.mpr (show len ≠ 0 by omega), h1, h2, h3]

theorem runP_pos {p : Nat → Bool} {l n : Nat} (h : 0 < l) (hp : p (n % 256) = true) : 0 < runP p l n := by
  cases l with
  | zero => omega
  | succ l => simp only [runP, hp]; omega

theorem blanksF_facts : ∀ {f l n line col : Nat}, n < 256 ^ l → (blanksF f l n line col).1 ≤ l ∧ (blanksF f l n line col).2.1 < 256 ^ (blanksF f l n line col).1 ∧
    (blanksF f l n line col).2.2.1 + (blanksF f l n line col).1 ≤ line + l ∧ (blanksF f l n line col).2.2.2 + (blanksF f l n line col).1 ≤ col + l
  | 0, l, n, line, col, h => ⟨Nat.le_refl _, h, Nat.le_refl _, Nat.le_refl _⟩
  | f + 1, l, n, line, col, h => by
    by_cases h0 : l = 0
    · rw [blanks_end (.inl h0)]; exact ⟨Nat.le_refl _, h, Nat.le_refl _, Nat.le_refl _⟩
    have hd : n / 256 < 256 ^ (l - 1) := by have := part_lt (k := 1) h (by omega); rwa [Nat.pow_one] at this
    by_cases h1 : n % 256 = 32 ∨ n % 256 = 9
    · rw [blanks_blank (by omega) h1]
      have := blanksF_facts (f := f) (line := line) (col := col + 1) hd
      exact ⟨by omega, this.2.1, by omega, by omega⟩
    by_cases h2 : n % 256 = 10
    · rw [blanks_line (by omega) h2]
      have := blanksF_facts (f := f) (line := line + 1) (col := 1) hd
      exact ⟨by omega, this.2.1, by omega, by omega⟩
    by_cases h3 : n % 256 = 35
    · rw [blanks_word (by omega) h3]
      have hk := runP_le lineB l n
      have := blanksF_facts (f := f) (line := line) (col := col + runP lineB l n) (part_lt h hk)
      exact ⟨by omega, this.2.1, by omega, by omega⟩
    · rw [blanks_end (.inr ⟨by omega, by omega, h2, h3⟩)]; exact ⟨Nat.le_refl _, h, Nat.le_refl _, Nat.le_refl _⟩

theorem tokM_facts {l n kind num tl : Nat} (h : tokM l n = some (kind, num, tl)) : tl ≤ l ∧ (kind = 4 ∧ l = 0 ∧ num = 0 ∧ tl = 0 ∨ kind ≠ 4 ∧ 1 ≤ tl) := by
  by_cases h0 : l = 0
  · subst h0
    simp only [tokM, Option.some.injEq, Prod.mk.injEq] at h
    obtain ⟨rfl, rfl, rfl⟩ := h
    exact ⟨by omega, .inl ⟨rfl, rfl, rfl, rfl⟩⟩
  cases h1 : letterB (n % 256) with
  | true =>
    have hp : 0 < runP innerB l n := runP_pos (by omega) (by unfold innerB; rw [h1]; rfl)
    have hle := runP_le innerB l n
    by_cases h2 : runP innerB l n ≤ 16
    · rw [tok_word (by omega) h1 h2] at h
      cases h
      exact ⟨hle, .inr ⟨by omega, hp⟩⟩
    · rw [tok_wordNo (by omega) h1 (by omega)] at h
      cases h
  | false =>
    cases h2 : digitB (n % 256) with
    | true =>
      have hp : 0 < runP digitB l n := runP_pos (by omega) h2
      have hle := runP_le digitB l n
      by_cases h3 : 9 < runP digitB l n ∨ n % 256 = 48 ∧ 1 < runP digitB l n
      · rw [tok_numNo (by omega) h1 h2 h3] at h
        cases h
      · rw [tok_num (by omega) h1 h2 (by omega) (by omega)] at h
        cases h
        exact ⟨hle, .inr ⟨by omega, hp⟩⟩
    | false =>
      cases h3 : signB (n % 256) with
      | true =>
        rw [tok_sign (by omega) h1 h2 h3] at h
        cases h
        exact ⟨by omega, .inr ⟨by omega, by omega⟩⟩
      | false =>
        rw [tok_none (by omega) h1 h2 h3] at h
        cases h

structure Tok where
  kind : Nat
  num : Nat
  line : Nat
  col : Nat
  len : Nat
  text : Nat

/-- A token's cells. -/
def Tok.row (t : Tok) : List V := [.int .i64 (.ofNat t.kind), .int .i64 (.ofNat t.num), .int .i64 (.ofNat t.line), .int .i64 (.ofNat t.col), .ps t.len t.text]

inductive LexR where
  | ok (l : List Tok)
  | bad (line col : Nat)

def LexR.pre (a : List Tok) : LexR → LexR
  | .ok l => .ok (a ++ l)
  | .bad x y => .bad x y

theorem LexR.pre_nil (r : LexR) : r.pre [] = r := by cases r <;> rfl
theorem LexR.pre_pre (a b : List Tok) (r : LexR) : (r.pre b).pre a = r.pre (a ++ b) := by cases r <;> simp [LexR.pre]

/-- All tokens of a text. -/
def toksF : Nat → Nat → Nat → Nat → Nat → LexR
  | 0, _, _, _, _ => .bad 0 0
  | f + 1, l, n, line, col => match blanksF l l n line col with
    | (l1, n1, line1, col1) => match tokM l1 n1 with
      | none => .bad line1 col1
      | some (kind, num, tl) => match Nat.beq kind 4 with
        | true => .ok [⟨4, 0, line1, col1, 0, 0⟩]
        | false => (toksF f (l1 - tl) (n1 / 256 ^ tl) line1 (col1 + tl)).pre [⟨kind, num, line1, col1, tl, n1 % 256 ^ tl⟩]

theorem toks_bad {f l x li co : Nat} (h : tokM (blanksF l l x li co).1 (blanksF l l x li co).2.1 = none) : toksF (f + 1) l x li co = .bad (blanksF l l x li co).2.2.1 (blanksF l l x li co).2.2.2 := by
  simp only [toksF, h]
theorem toks_end {f l x li co num tl : Nat} (h : tokM (blanksF l l x li co).1 (blanksF l l x li co).2.1 = some (4, num, tl)) : toksF (f + 1) l x li co = .ok [⟨4, 0, (blanksF l l x li co).2.2.1, (blanksF l l x li co).2.2.2, 0, 0⟩] := by
  simp only [toksF, h]
theorem toks_more {f l x li co kind num tl : Nat} (h : tokM (blanksF l l x li co).1 (blanksF l l x li co).2.1 = some (kind, num, tl)) (hk : kind ≠ 4) :
    toksF (f + 1) l x li co = (toksF f ((blanksF l l x li co).1 - tl) ((blanksF l l x li co).2.1 / 256 ^ tl) (blanksF l l x li co).2.2.1 ((blanksF l l x li co).2.2.2 + tl)).pre [⟨kind, num, (blanksF l l x li co).2.2.1, (blanksF l l x li co).2.2.2, tl, (blanksF l l x li co).2.1 % 256 ^ tl⟩] := by
  simp only [toksF, h, beq_false_iff.mpr hk]

/-- Is it among the first bytes of a text? -/
def hasB : Nat → Nat → Nat → Bool
  | 0, _, _ => false
  | l + 1, n, c => match Nat.beq (n % 256) c with
    | true => true
    | false => hasB l (n / 256) c

theorem hasB_step {i l n c : Nat} (h : i < l) : hasB (l - i) (n / 256 ^ i) c = (match Nat.beq (n / 256 ^ i % 256) c with | true => true | false => hasB (l - (i + 1)) (n / 256 ^ (i + 1)) c) := by
  obtain ⟨m, hm⟩ : ∃ m, l - i = m + 1 := ⟨l - i - 1, by omega⟩
  rw [hm, show l - (i + 1) = m by omega, Nat.pow_succ, ← Nat.div_div_eq_div_mul]
  rfl

/-- The piece of a text from a place on: its kind, where it ends. -/
def pieceM (len n i : Nat) : Nat × Nat := match tokM (len - i) (n / 256 ^ i) with
  | none => (0, 0)
  | some (kind, _, tl) => (kind, i + tl)

/-! ### By places of a text -/

theorem div_pow_add (n i k : Nat) : n / 256 ^ i / 256 ^ k = n / 256 ^ (i + k) := by rw [Nat.div_div_eq_div_mul, ← Nat.pow_add]
theorem div_pow_one (n i : Nat) : n / 256 ^ i / 256 = n / 256 ^ (i + 1) := by rw [Nat.div_div_eq_div_mul, ← Nat.pow_succ]

theorem blanksF_fuel : ∀ {f g l n line col : Nat}, l ≤ f → l ≤ g → blanksF f l n line col = blanksF g l n line col
  | 0, g, l, n, line, col, hf, hg => by rw [blanks_end (f := 0) (.inl (by omega)), blanks_end (f := g) (.inl (by omega))]
  | f + 1, 0, l, n, line, col, hf, hg => by rw [blanks_end (f := f + 1) (.inl (by omega)), blanks_end (f := 0) (.inl (by omega))]
  | f + 1, g + 1, l, n, line, col, hf, hg => by
    by_cases h0 : l = 0
    · rw [blanks_end (f := f + 1) (.inl h0), blanks_end (f := g + 1) (.inl h0)]
    by_cases h1 : n % 256 = 32 ∨ n % 256 = 9
    · rw [blanks_blank (by omega) h1, blanks_blank (by omega) h1, blanksF_fuel (f := f) (g := g) (by omega) (by omega)]
    by_cases h2 : n % 256 = 10
    · rw [blanks_line (by omega) h2, blanks_line (by omega) h2, blanksF_fuel (f := f) (g := g) (by omega) (by omega)]
    by_cases h3 : n % 256 = 35
    · have hp : 0 < runP lineB l n := runP_pos (by omega) (by rw [h3]; rfl)
      rw [blanks_word (by omega) h3, blanks_word (by omega) h3, blanksF_fuel (f := f) (g := g) (by omega) (by omega)]
    · rw [blanks_end (f := f + 1) (.inr ⟨by omega, by omega, h2, h3⟩), blanks_end (f := g + 1) (.inr ⟨by omega, by omega, h2, h3⟩)]

/-- From another place on, behind blanks. -/
theorem toks_of_blanks {f l x li co l' x' li' co' : Nat} (h : blanksF l l x li co = blanksF l' l' x' li' co') : toksF (f + 1) l x li co = toksF (f + 1) l' x' li' co' := by
  simp only [toksF, h]

theorem tp_blank {F len n i line from_ : Nat} (hi : i < len) (hf : from_ ≤ i) (hb : n / 256 ^ i % 256 = 32 ∨ n / 256 ^ i % 256 = 9) :
    toksF (F + 1) (len - i) (n / 256 ^ i) line (i - from_ + 1) = toksF (F + 1) (len - (i + 1)) (n / 256 ^ (i + 1)) line (i + 1 - from_ + 1) := by
  refine toks_of_blanks ?_
  obtain ⟨m, hm⟩ : ∃ m, len - i = m + 1 := ⟨len - i - 1, by omega⟩
  rw [hm, blanks_blank (by omega) hb, div_pow_one, show m + 1 - 1 = m by omega, show len - (i + 1) = m by omega, show i - from_ + 1 + 1 = i + 1 - from_ + 1 by omega]
theorem tp_line {F len n i line from_ : Nat} (hi : i < len) (hb : n / 256 ^ i % 256 = 10) :
    toksF (F + 1) (len - i) (n / 256 ^ i) line (i - from_ + 1) = toksF (F + 1) (len - (i + 1)) (n / 256 ^ (i + 1)) (line + 1) (i + 1 - (i + 1) + 1) := by
  refine toks_of_blanks ?_
  obtain ⟨m, hm⟩ : ∃ m, len - i = m + 1 := ⟨len - i - 1, by omega⟩
  rw [hm, blanks_line (by omega) hb, div_pow_one, show m + 1 - 1 = m by omega, show len - (i + 1) = m by omega, show i + 1 - (i + 1) + 1 = 1 by omega]
theorem tp_rem {F len n i line from_ : Nat} (hi : i < len) (hf : from_ ≤ i) (hb : n / 256 ^ i % 256 = 35) :
    toksF (F + 1) (len - i) (n / 256 ^ i) line (i - from_ + 1) = toksF (F + 1) (len - (i + runP lineB (len - i) (n / 256 ^ i))) (n / 256 ^ (i + runP lineB (len - i) (n / 256 ^ i))) line (i + runP lineB (len - i) (n / 256 ^ i) - from_ + 1) := by
  refine toks_of_blanks ?_
  have hp : 0 < runP lineB (len - i) (n / 256 ^ i) := runP_pos (by omega) (by rw [hb]; rfl)
  generalize hk : runP lineB (len - i) (n / 256 ^ i) = k at *
  obtain ⟨m, hm⟩ : ∃ m, len - i = m + 1 := ⟨len - i - 1, by omega⟩
  rw [hm] at hk ⊢
  rw [blanks_word (by omega) hb, hk, div_pow_add, blanksF_fuel (g := m + 1 - k) (by omega) (by omega), show len - (i + k) = m + 1 - k by omega, show i - from_ + 1 + k = i + k - from_ + 1 by omega]
theorem tp_bad {F len n i line from_ : Nat} (hb : n / 256 ^ i % 256 ≠ 32 ∧ n / 256 ^ i % 256 ≠ 9 ∧ n / 256 ^ i % 256 ≠ 10 ∧ n / 256 ^ i % 256 ≠ 35) (h : tokM (len - i) (n / 256 ^ i) = none) :
    toksF (F + 1) (len - i) (n / 256 ^ i) line (i - from_ + 1) = .bad line (i - from_ + 1) := by
  simp only [toksF, blanks_end (.inr hb), h]
theorem tp_more {F len n i line from_ kind num tl : Nat} (hf : from_ ≤ i) (hb : n / 256 ^ i % 256 ≠ 32 ∧ n / 256 ^ i % 256 ≠ 9 ∧ n / 256 ^ i % 256 ≠ 10 ∧ n / 256 ^ i % 256 ≠ 35) (h : tokM (len - i) (n / 256 ^ i) = some (kind, num, tl)) (hk : kind ≠ 4) :
    toksF (F + 1) (len - i) (n / 256 ^ i) line (i - from_ + 1) = (toksF F (len - (i + tl)) (n / 256 ^ (i + tl)) line (i + tl - from_ + 1)).pre [⟨kind, num, line, i - from_ + 1, tl, n / 256 ^ i % 256 ^ tl⟩] := by
  simp only [toksF, blanks_end (.inr hb), h, beq_false_iff.mpr hk, div_pow_add]
  rw [show len - i - tl = len - (i + tl) by omega, show i - from_ + 1 + tl = i + tl - from_ + 1 by omega]
theorem tp_end {F len n line from_ : Nat} : toksF (F + 1) (len - len) (n / 256 ^ len) line (len - from_ + 1) = .ok [⟨4, 0, line, len - from_ + 1, 0, 0⟩] := by
  rw [Nat.sub_self]
  simp only [toksF, blanks_end (.inl rfl), show tokM 0 (n / 256 ^ len) = some (4, 0, 0) from rfl]

theorem tokM_num {l n num tl : Nat} (h : tokM l n = some (2, num, tl)) : tl ≤ 9 ∧ runP digitB tl (n % 256 ^ tl) = tl ∧ num = numP tl (n % 256 ^ tl) 0 := by
  unfold tokM at h
  split at h
  · simp at h
  · split at h
    · split at h <;> simp at h
    · split at h
      · split at h
        · rename_i hc
          simp only [Option.some.injEq, Prod.mk.injEq, true_and] at h
          obtain ⟨h1, h2⟩ := h
          subst h2
          simp only [Bool.and_eq_true, Nat.ble_eq] at hc
          exact ⟨hc.1, by rw [runP_mod (Nat.le_refl _), runP_self], h1.symm⟩
        · simp at h
      · split at h <;> simp at h
theorem tokM_other {l n kind num tl : Nat} (h : tokM l n = some (kind, num, tl)) (hk : kind ≠ 2) : num = 0 := by
  unfold tokM at h
  split at h
  · simp at h; omega
  · split at h
    · split at h <;> simp at h; omega
    · split at h
      · split at h
        · simp at h; omega
        · simp at h
      · split at h <;> simp at h; omega
theorem tokM_kind {l n kind num tl : Nat} (h : tokM l n = some (kind, num, tl)) : kind ≠ 0 := by
  unfold tokM at h
  split at h
  · simp at h; omega
  · split at h
    · split at h <;> simp at h; omega
    · split at h
      · split at h
        · simp at h; omega
        · simp at h
      · split at h <;> simp at h; omega

end Go.Proofs.YtibmbbogjkecoaaDoor.M

/- The plans of this program's drawn regions (printed by plan.lean). -/
namespace Go.Proofs.YtibmbbogjkecoaaDoor.M
open Go
def pl5 (r : Nat) : List Plan := match r with
  | 5 => [.s (.q 0), .s (.q 1), .s (.q 2), .s (.q 3), .s (.l 4 [0, 1, 2, 3, 4, 5, 6, 7, 8, 9, 10]), .s (.l 5 [5, 6, 7, 8, 9, 10]), .s (.q 6), .s (.q 7), .s (.q 8), .s (.q 9), .s (.q 10)]
  | 6 => [.s (.q 0), .s (.q 1), .s (.q 2), .s (.q 3), .s (.l 4 [0, 1, 2, 3, 4, 5, 6, 7, 8, 9, 10]), .s (.l 5 [5, 6, 7, 8, 9, 10]), .s (.q 6), .s (.q 7), .s (.q 8), .s (.q 9), .s (.q 10)]
  | _ => []
def pl10 (r : Nat) : List Plan := match r with
  | 15 => [.s (.q 0), .s (.q 1), .s (.q 2), .s (.q 3), .s (.q 4), .s (.q 5), .s (.q 6), .s (.q 7), .s (.q 8), .s (.l 9 [0, 1, 2, 3, 4, 9, 10, 11, 12, 13, 14]), .s (.q 10), .s (.q 11), .s (.q 12), .s (.q 13), .s (.l 14 [14])]
  | 17 => [.s (.q 0), .s (.q 1), .s (.q 2), .s (.q 3), .s (.q 4), .s (.q 5), .s (.q 6), .s (.q 7), .s (.q 8), .s (.l 9 [0, 1, 2, 3, 4, 9, 10, 11, 12, 13, 14]), .s (.q 10), .s (.q 11), .s (.q 12), .s (.q 13), .s (.l 14 [14])]
  | 19 => [.s (.q 0), .s (.q 1), .s (.q 2), .s (.q 3), .s (.q 4), .s (.q 5), .s (.q 6), .s (.q 7), .s (.q 8), .s (.l 9 [0, 1, 2, 3, 4, 9, 10, 11, 12, 13, 14]), .s (.q 10), .s (.q 11), .s (.q 12), .s (.q 13), .s (.l 14 [14])]
  | 21 => [.s (.q 0), .s (.q 1), .s (.q 2), .s (.q 3), .s (.q 4), .s (.q 5), .s (.q 6), .s (.q 7), .s (.q 8), .s (.l 9 [0, 1, 2, 3, 4, 9, 10, 11, 12, 13, 14]), .s (.q 10), .s (.q 11), .s (.q 12), .s (.q 13), .s (.l 14 [14])]
  | _ => []
def pl12 (r : Nat) : List Plan := match r with
  | 25 => [.s (.q 0), .s (.q 1), .s (.q 2), .s (.q 3), .s (.q 4), .s (.q 5), .s (.q 6), .s (.q 7), .s (.q 8), .s (.q 9), .s (.q 10), .s (.q 11), .s (.q 12), .s (.q 13), .s (.q 14), .s (.q 15), .s (.q 16), .s (.q 17), .s (.q 18), .s (.q 19), .s (.q 20), .s (.q 21), .s (.q 22), .s (.q 23), .s (.q 24), .s (.q 25), .s (.q 26), .s (.q 27), .s (.q 28), .s (.q 29), .s (.q 30), .s (.q 31), .s (.q 32), .s (.q 33), .s (.q 34), .s (.q 35), .s (.q 36), .s (.q 37), .s (.q 38)]
  | _ => []
def pl13 (r : Nat) : List Plan := match r with
  | 7 => [.s (.q 0), .s (.q 1), .s (.q 2), .s (.q 3), .s (.q 4), .s (.q 5), .s (.q 6), .s (.q 7)]
  | _ => []
def pl14 (r : Nat) : List Plan := match r with
  | 4 => [.s (.q 0), .s (.q 1), .s (.q 2), .s (.q 3), .s (.q 4), .s (.q 5), .s (.q 6), .s (.q 7), .s (.l 8 [4, 5, 6, 7, 8, 9, 10]), .s (.l 9 [9, 10]), .s (.l 10 [10])]
  | _ => []
def pl18 (r : Nat) : List Plan := match r with
  | 19 => [.s (.q 0), .s (.q 1), .s (.q 2), .s (.q 3), .s (.q 4), .s (.q 5), .s (.q 6), .s (.q 7), .s (.q 8), .s (.q 9), .s (.q 10), .s (.q 11)]
  | 21 => [.s (.q 0), .s (.q 1), .s (.q 2), .s (.q 3), .s (.q 4), .s (.q 5), .s (.q 6), .s (.q 7), .s (.q 8), .s (.q 9), .s (.q 10), .s (.q 11), .s (.q 12), .s (.q 13), .s (.q 14), .s (.q 15), .s (.q 16), .s (.q 17)]
  | 34 => [.s (.q 0), .s (.q 1), .s (.q 2), .s (.q 3), .s (.q 4), .s (.q 5), .s (.q 6), .s (.q 7), .s (.q 8), .s (.q 9), .s (.q 10), .s (.q 11)]
  | 35 => [.s (.q 0), .s (.q 1), .s (.q 2), .s (.q 6), .s (.q 7), .s (.q 9), .s (.q 10), .s (.q 11), .s (.q 12), .s (.l 3 [0, 3, 4, 5, 6, 7, 8, 9, 10, 11, 12, 13, 14, 15, 16, 17, 18, 19]), .s (.l 4 [0, 4, 5, 6, 7, 8, 9, 10, 11, 12, 13, 14, 15, 16, 17, 18, 19]), .s (.q 5), .s (.q 8), .s (.q 13), .s (.q 14), .s (.q 15), .s (.q 16), .s (.q 17), .s (.q 18), .s (.l 19 [19])]
  | _ => []
def pl19 (r : Nat) : List Plan := match r with
  | 21 => [.s (.q 0), .s (.q 1), .s (.q 2), .s (.q 3), .s (.q 4), .s (.q 5), .s (.q 6), .s (.q 7), .s (.q 8), .s (.q 9), .s (.q 10), .s (.q 11), .s (.q 12), .s (.q 13), .s (.q 14), .s (.q 15), .s (.q 16), .s (.q 17), .s (.q 18), .s (.q 19), .s (.q 20)]
  | 26 => [.s (.q 0), .s (.q 1), .s (.q 2), .s (.q 3), .s (.q 4), .s (.q 5), .s (.q 6), .s (.q 7), .s (.q 8), .s (.q 9), .s (.q 10), .s (.q 11), .s (.q 12), .s (.q 13), .s (.q 14), .s (.q 15), .s (.q 16), .s (.q 17), .s (.q 18), .s (.q 19), .s (.q 20), .s (.q 21), .s (.q 22)]
  | _ => []
def pl21 (r : Nat) : List Plan := match r with
  | 6 => [.s (.q 0), .s (.q 1), .s (.q 2), .s (.q 3), .s (.q 4), .s (.q 5), .s (.q 6), .s (.q 7), .s (.q 8), .s (.q 9), .s (.q 10), .s (.q 11), .s (.q 12), .s (.q 13), .s (.q 14), .s (.l 15 [1, 2, 12, 15, 16, 17, 18, 19, 20, 21]), .s (.q 16), .s (.q 17), .s (.l 18 [2, 18, 19, 20, 21]), .s (.q 19), .s (.q 20), .s (.l 21 [21])]
  | _ => []
def pl22 (r : Nat) : List Plan := match r with
  | 1 => [.s (.q 0), .s (.q 1), .s (.q 2), .s (.q 3), .s (.q 4), .s (.q 5), .s (.q 6), .s (.q 7), .s (.q 8), .s (.l 9 [0, 1, 2, 3, 4, 5, 6, 7, 8, 9, 10]), .s (.l 10 [10])]
  | _ => []
def pl23 (r : Nat) : List Plan := match r with
  | 7 => [.s (.q 0), .s (.q 1), .s (.q 2), .s (.q 3), .s (.q 4), .s (.q 5), .s (.l 6 [4, 5, 6, 7, 8]), .s (.l 7 [4, 5, 7, 8]), .s (.l 8 [8])]
  | _ => []
def pl26 (r : Nat) : List Plan := match r with
  | 1 => [.s (.q 0), .s (.q 1), .s (.q 2), .s (.q 3), .s (.q 4), .s (.q 5), .s (.q 6), .s (.q 7), .s (.l 8 [0, 1, 2, 3, 4, 5, 8, 9, 10]), .s (.l 9 [9, 10]), .s (.l 10 [10])]
  | _ => []
def pl28 (r : Nat) : List Plan := match r with
  | 0 => [.s (.q 0), .s (.q 1), .s (.q 2), .s (.q 3), .s (.q 4), .s (.q 5), .s (.q 6), .s (.q 7), .s (.q 8), .s (.q 9), .s (.q 10), .s (.q 11), .s (.q 12), .s (.q 13), .s (.q 14), .s (.q 15), .s (.l 16 [1, 12, 13, 16, 17, 18, 19]), .s (.q 17), .s (.q 18), .s (.l 19 [19])]
  | _ => []
def pl42 (r : Nat) : List Plan := match r with
  | 1 => [.s (.q 0), .s (.q 1), .s (.q 2), .s (.q 3), .s (.q 4), .s (.q 5), .s (.l 6 [0, 1, 2, 3, 4, 6, 7, 8, 9, 10]), .s (.l 7 [0, 7, 8, 9, 10]), .s (.q 8), .s (.q 9), .s (.l 10 [10])]
  | _ => []
def pl45 (r : Nat) : List Plan := match r with
  | 1 => [.s (.q 0), .s (.q 1), .s (.q 3), .s (.l 2 [0, 2, 3, 4, 5, 6]), .s (.q 4), .s (.l 5 [5, 6]), .s (.q 6)]
  | _ => []
def pl46 (r : Nat) : List Plan := match r with
  | 1 => [.s (.q 0), .s (.q 1), .s (.q 3), .s (.l 2 [0, 2, 3, 4, 5, 6]), .s (.q 4), .s (.l 5 [5, 6]), .s (.q 6)]
  | _ => []
def pl51 (r : Nat) : List Plan := match r with
  | 9 => [.s (.q 0), .s (.q 1), .s (.q 2), .s (.q 3), .s (.q 4), .g [9] [.l 5 [5, 6, 7, 8, 9, 10, 11], .q 6, .q 7, .q 8], .s (.l 10 [8, 10, 11]), .s (.q 11)]
  | 21 => [.s (.q 0), .s (.q 1), .s (.q 2), .s (.q 3), .s (.q 4), .s (.q 5), .s (.q 6), .s (.q 7), .s (.q 8), .s (.q 9), .s (.q 10), .s (.q 11), .s (.q 12), .s (.q 13), .s (.l 14 [1, 11, 14, 15, 16, 17]), .s (.q 15), .s (.q 16), .s (.l 17 [17])]
  | 24 => [.s (.q 0), .s (.q 1), .s (.q 2), .s (.q 3), .s (.q 4), .s (.q 5), .s (.q 6), .s (.q 7), .s (.q 8), .s (.q 9), .s (.q 10), .s (.q 11), .s (.q 12), .s (.q 13), .s (.l 14 [1, 11, 14, 15, 16, 17]), .s (.q 15), .s (.q 16), .s (.l 17 [17])]
  | _ => []
def pl57 (r : Nat) : List Plan := match r with
  | 1 => [.s (.q 0), .s (.q 1), .s (.q 2), .s (.q 3), .s (.q 4), .s (.q 5), .s (.q 6), .s (.q 7), .s (.q 8), .s (.q 9), .s (.l 10 [10])]
  | _ => []
def pl69 (r : Nat) : List Plan := match r with
  | 7 => [.s (.q 0), .s (.q 1), .s (.q 2), .s (.q 3), .s (.q 4), .s (.q 5), .s (.q 6), .s (.q 7), .s (.q 8), .s (.q 9), .s (.q 10), .s (.q 11), .s (.l 12 [3, 4, 5, 9, 10, 12, 13, 14]), .s (.q 13), .s (.l 14 [14])]
  | 8 => [.s (.q 0), .s (.q 1), .s (.q 2), .s (.q 3), .s (.q 4), .s (.q 5), .s (.q 6), .s (.q 7), .s (.q 8), .s (.q 9), .s (.q 10), .s (.q 11), .s (.l 12 [3, 4, 5, 9, 10, 12, 13, 14]), .s (.q 13), .s (.l 14 [14])]
  | 9 => [.s (.q 0), .s (.q 1), .s (.q 2), .s (.q 3), .s (.q 4), .s (.q 5), .s (.q 6), .s (.q 7), .s (.q 8), .s (.q 9), .s (.q 10), .s (.q 11), .s (.l 12 [3, 4, 5, 9, 10, 12, 13, 14]), .s (.q 13), .s (.l 14 [14])]
  | 10 => [.s (.q 0), .s (.q 1), .s (.q 2), .s (.q 3), .s (.q 4), .s (.q 5), .s (.q 6), .s (.q 7), .s (.q 8), .s (.q 9), .s (.q 10), .s (.q 11), .s (.l 12 [3, 4, 5, 9, 10, 12, 13, 14]), .s (.q 13), .s (.l 14 [14])]
  | 17 => [.s (.q 0), .s (.q 1), .s (.q 2), .s (.q 3), .s (.q 4), .s (.q 5), .s (.q 6), .s (.q 7), .s (.q 8), .s (.q 9), .s (.q 10), .s (.q 11), .s (.l 12 [3, 4, 5, 9, 10, 12, 13, 14]), .s (.q 13), .s (.l 14 [14])]
  | 18 => [.s (.q 0), .s (.q 1), .s (.q 2), .s (.q 3), .s (.q 4), .s (.q 5), .s (.q 6), .s (.q 7), .s (.q 8), .s (.q 9), .s (.q 10), .s (.q 11), .s (.l 12 [3, 4, 5, 9, 10, 12, 13, 14]), .s (.q 13), .s (.l 14 [14])]
  | 23 => [.s (.q 0), .s (.q 1), .s (.q 2), .s (.q 3), .s (.q 4), .s (.q 5), .s (.q 6), .s (.q 7), .s (.q 8), .s (.q 9), .s (.q 10), .s (.q 11), .s (.l 12 [3, 4, 5, 9, 10, 12, 13, 14]), .s (.q 13), .s (.l 14 [14])]
  | _ => []
def pl81 (r : Nat) : List Plan := match r with
  | 9 => [.s (.q 0), .s (.q 1), .s (.q 2), .s (.q 3), .s (.q 4), .s (.q 5), .s (.q 6), .s (.q 7), .s (.q 8), .s (.q 9), .s (.q 10), .s (.q 11), .s (.q 12), .s (.q 13), .s (.q 14), .s (.q 15), .s (.q 16), .s (.q 17), .s (.q 18), .s (.q 19)]
  | 18 => [.s (.q 0), .s (.q 1), .s (.q 2), .s (.q 3), .s (.q 4), .s (.q 5), .s (.q 6), .s (.q 7), .s (.q 8), .s (.q 9), .s (.q 10), .s (.q 11), .s (.q 12), .s (.q 13), .s (.q 14), .s (.q 15), .s (.q 16), .s (.q 17), .s (.q 18), .s (.q 19)]
  | _ => []
def pl82 (r : Nat) : List Plan := match r with
  | 9 => [.s (.q 0), .s (.q 1), .s (.q 2), .s (.q 3), .s (.q 4), .s (.q 5), .s (.q 6), .s (.q 7), .s (.q 8), .s (.q 9), .s (.q 10), .s (.q 11), .s (.q 12), .s (.q 13), .s (.q 14), .s (.q 15), .s (.q 16), .s (.q 17), .s (.q 18), .s (.q 19)]
  | _ => []
def ksF (f : FuncId) : List Nat := match f with
  | 14 => [8, 9, 10]
  | _ => []
def plF (f : FuncId) : Nat → List Plan := match f with
  | 5 => pl5
  | 10 => pl10
  | 12 => pl12
  | 13 => pl13
  | 14 => pl14
  | 18 => pl18
  | 19 => pl19
  | 21 => pl21
  | 22 => pl22
  | 23 => pl23
  | 26 => pl26
  | 28 => pl28
  | 42 => pl42
  | 45 => pl45
  | 46 => pl46
  | 51 => pl51
  | 57 => pl57
  | 69 => pl69
  | 81 => pl81
  | 82 => pl82
  | _ => fun _ => []

def glob : Gl := ⟨plF, ksF, false⟩
/-- The same, with rows as lists. -/
def globL : Gl := ⟨plF, ksF, true⟩
end Go.Proofs.YtibmbbogjkecoaaDoor.M

/- All plans may be followed. -/
namespace Go.Proofs.YtibmbbogjkecoaaDoor.M
open Go

/-- Functions one behind the other. -/
def okR (P : Program) (G : Gl) (a n : Nat) : Bool := (List.range n).all fun i => okF P G (Nat.add a i)
theorem okR_ok {P : Program} {G : Gl} {a n : Nat} (h : okR P G a n = true) (f : Nat) (h1 : a ≤ f) (h2 : f < a + n) : okF P G f = true := by
  unfold okR at h
  rw [List.all_eq_true] at h
  have := h (f - a) (List.mem_range.mpr (by omega))
  rwa [show Nat.add a (f - a) = f by show a + (f - a) = f; omega] at this

theorem ok0 : okR Tryd.prog glob 0 12 = true := by kernel_rfl
theorem ok1 : okR Tryd.prog glob 12 12 = true := by kernel_rfl
theorem ok2 : okR Tryd.prog glob 24 12 = true := by kernel_rfl
theorem ok3 : okR Tryd.prog glob 36 12 = true := by kernel_rfl
theorem ok4 : okR Tryd.prog glob 48 12 = true := by kernel_rfl
theorem ok5 : okR Tryd.prog glob 60 12 = true := by kernel_rfl
theorem ok6 : okR Tryd.prog glob 72 12 = true := by kernel_rfl
theorem ok7 : okR Tryd.prog glob 84 12 = true := by kernel_rfl
theorem ok8 : okR Tryd.prog glob 96 12 = true := by kernel_rfl
theorem ok9 : okR Tryd.prog glob 108 7 = true := by kernel_rfl

theorem funcs_size : Tryd.prog.funcs.size = 115 := by kernel_rfl

theorem glob_ok : GOK' Tryd.prog glob := by
  intro f fn c hf hb
  have hlt := getElem?_lt hf
  rw [funcs_size] at hlt
  have key : okF Tryd.prog glob f = true := by
    rcases Nat.lt_or_ge f 12 with g0 | g0
    · exact okR_ok ok0 f (by omega) (by omega)
    rcases Nat.lt_or_ge f 24 with g1 | g1
    · exact okR_ok ok1 f (by omega) (by omega)
    rcases Nat.lt_or_ge f 36 with g2 | g2
    · exact okR_ok ok2 f (by omega) (by omega)
    rcases Nat.lt_or_ge f 48 with g3 | g3
    · exact okR_ok ok3 f (by omega) (by omega)
    rcases Nat.lt_or_ge f 60 with g4 | g4
    · exact okR_ok ok4 f (by omega) (by omega)
    rcases Nat.lt_or_ge f 72 with g5 | g5
    · exact okR_ok ok5 f (by omega) (by omega)
    rcases Nat.lt_or_ge f 84 with g6 | g6
    · exact okR_ok ok6 f (by omega) (by omega)
    rcases Nat.lt_or_ge f 96 with g7 | g7
    · exact okR_ok ok7 f (by omega) (by omega)
    rcases Nat.lt_or_ge f 108 with g8 | g8
    · exact okR_ok ok8 f (by omega) (by omega)
    exact okR_ok ok9 f (by omega) (by omega)
  unfold okF at key
  rw [hf] at key
  simp only [hb] at key
  exact key

theorem globL_ok : GOK' Tryd.prog globL := glob_ok

end Go.Proofs.YtibmbbogjkecoaaDoor.M

/- Helps: arrays made afresh, conditions that are asked for, rounds one by one, closed runs that say true, numbers as rows. -/
namespace Go.Proofs.YtibmbbogjkecoaaDoor.M
open Go
set_option linter.unusedSimpArgs false
set_option linter.unusedVariables false
variable {ρ : Nat → Value}

theorem follows : Tryd.prog.follows .mixedOrders = true := by kernel_rfl
theorem arg1 {q : V} (h : q.flat = true) : ∀ x ∈ [q], Arg2 [] x x := fun x hx => by simp at hx; subst hx; exact .flat _ h
theorem arg2 {q r : V} (h : q.flat = true) (h2 : r.flat = true) : ∀ x ∈ [q, r], Arg2 [] x x := fun x hx => by simp at hx; rcases hx with rfl | rfl <;> (refine .flat _ ?_; assumption)

/-- An array that was made afresh, as what it holds. -/
theorem frz_arr {O : Objs} {k len s : Nat} {full : Bool} {ob : Ob} {rows : List (List V)} (ho : O k = some ob) (hs : ob.s = s) (hl : rows.length = len) (hr : (List.range len).map ob.row = rows.map some)
    (hf : (rows.all fun row => row.all fun q => q.flat && q.one) = true) (hmp : ob.mp = false := by rfl) : Frz (fun _ => True) O (.sl k 0 len full) (.ro s rows) := by
  subst hs hl
  have hrow : ∀ r row', rows[r]? = some row' → ob.row r = some row' := fun r row' h => by
    have hlt : r < rows.length := (List.getElem?_eq_some_iff.mp h).1
    have e := congrArg (fun l => l[r]?) hr
    simp only [List.getElem?_map, List.getElem?_range hlt, h, Option.map_some, Option.some.injEq] at e
    exact e
  refine .cell (.sl k 0 rows.length full ob rows (fun r => (ob.row r).getD []) trivial ho hmp rfl (fun r row' h => ⟨?_, ?_⟩) fun r row' h c q q' h1 h2 => ?_)
  · rw [Nat.zero_add, hrow r row' h]; rfl
  · show row'.length = ((ob.row r).getD []).length
    rw [hrow r row' h]; rfl
  · have h1 : ((ob.row r).getD [])[c]? = some q := h1
    rw [hrow r row' h] at h1
    have h1 : row'[c]? = some q := h1
    rw [h1] at h2
    cases h2
    have := List.all_eq_true.mp (List.all_eq_true.mp hf row' (List.mem_of_getElem? h)) q (List.mem_of_getElem? h1)
    rw [Bool.and_eq_true] at this
    exact .same q this.2 this.1

noncomputable def lexX (r : LexR) (f : List Tok → Ans) (g : Nat → Nat → Ans) : Ans := LexR.rec (motive := fun _ => AnsT) f g r
theorem lexX_inv {r : LexR} {f : List Tok → Ans} {g : Nat → Nat → Ans} (h : lexX r f g = .ok) : (∃ l, r = .ok l ∧ f l = .ok) ∨ ∃ a b, r = .bad a b ∧ g a b = .ok := by
  cases r with
  | ok l => exact .inl ⟨l, rfl, h⟩
  | bad a b => exact .inr ⟨a, b, rfl, h⟩
theorem lex_split {r : LexR} {f : List Tok → Ans} {g : Nat → Nat → Ans} (h1 : ∀ l, r = .ok l → f l = .ok) (h2 : ∀ a b, r = .bad a b → g a b = .ok) : LexR.rec (motive := fun _ => AnsT) f g r = .ok := by
  cases r with
  | ok l => exact h1 l rfl
  | bad a b => exact h2 a b rfl
theorem lex_ok {r : LexR} {l : List Tok} {f : List Tok → Ans} {g : Nat → Nat → Ans} (h : r = .ok l) (hf : f l = .ok) : LexR.rec (motive := fun _ => AnsT) f g r = .ok := by subst h; exact hf
theorem lex_bad {r : LexR} {a b : Nat} {f : List Tok → Ans} {g : Nat → Nat → Ans} (h : r = .bad a b) (hf : g a b = .ok) : LexR.rec (motive := fun _ => AnsT) f g r = .ok := by subst h; exact hf

/-- What is asked for. -/
noncomputable def askP (p : Prop) (k : Ans) : Ans := open Classical in if p then k else .err 9
theorem askP_ok {p : Prop} {k : Ans} (h : p) (hk : k = .ok) : askP p k = .ok := by unfold askP; rw [if_pos h]; exact hk
theorem askP_inv {p : Prop} {k : Ans} (h : askP p k = .ok) : p ∧ k = .ok := by
  unfold askP at h
  split at h
  · exact ⟨by assumption, h⟩
  · cases h

theorem unroll {c : Env → K3 → Tm → Hp → Nat → Ans} {E : Env} {R : Nat} {tm : Tm} {hp : Hp} {nx : Nat} (hR : 0 < R) (h : c E (roundsK c E (R - 1)) tm hp nx = .ok) : roundsK c E R tm hp nx = .ok := by
  obtain ⟨k, rfl⟩ : ∃ k, R = k + 1 := ⟨R - 1, by omega⟩
  exact h

/-- A run without unknowns that says true. -/
theorem says_true {P : Program} (hm : P.follows .mixedOrders = true) {G : Gl} (hG : GOK' P G) (n : Nat) {f : FuncId} (h : isOk (runF P G n f [] [] hp0 0 sayTrue sayNo) = true) : Says ρ P f [] (.bool true) := by
  refine says_frame (fun q hq => by cases hq) ?_
  have := run_sound (ρ := ρ) hm hG n (isOk_ok h)
  rw [absO_hp0, inL_nil] at this
  refine this.mono fun o O m hr => ?_
  cases o with
  | ret v =>
    obtain ⟨hp, _, h⟩ := hr
    obtain ⟨t, h1, h⟩ := V.onBool_inv h
    rcases boolK_inv h with ⟨rfl, _⟩ | ⟨_, h⟩
    · rw [h1]
      exact ⟨_, rfl, .flat _ rfl⟩
    · exact Ans.no h
  | panic v =>
    obtain ⟨hp, _, h⟩ := hr
    exact Ans.no h

def pickRow (z : Int) : List V := [.int .i64 z]

def pickOf (row : List V) : Int := match row with
  | [.int .i64 z] => z
  | _ => 0
theorem picks_of (picks : List Int) : picks.map pickRow = ((picks.map pickRow).map pickOf).map pickRow := by
  rw [List.map_map, List.map_map]
  rfl

end Go.Proofs.YtibmbbogjkecoaaDoor.M

/- columbarykeep: a number within others. -/
namespace Go.Proofs.YtibmbbogjkecoaaDoor.M
open Go
set_option linter.unusedSimpArgs false
set_option linter.unusedVariables false
variable {ρ : Nat → Value}

section
open Go.RowKit
attribute [local irreducible] QC QS QFin in
theorem within_says (n : Int) (b : Nat) (hb : 1 ≤ b) : Says ρ Tryd.prog 7 [.int .i64 n, .int .i64 (.ofNat b)] (.int .i64 (withinM n (.ofNat b))) := by
  intro objs next forb
  refine qcalls_body (fun _ => false) Tryd.func7 rfl ?_
  repeat' first
    | refine q_seq ?_
    | refine q_region ?_
    | refine qs_quiet rfl (qq_move (.inl rfl)) (fun t ht => by cases ht; exact of_decide_eq_true rfl) ?_
    | refine qs_quiet rfl (qq_move (.inr rfl)) (fun t ht => by cases ht; exact of_decide_eq_true rfl) ?_
    | refine qs_quiet rfl (qq_binI rfl rfl rfl rfl) (fun t ht => by cases ht; exact of_decide_eq_true rfl) ?_
    | refine qs_quiet rfl (qq_rem rfl rfl rfl (by have : Int.ofNat b = (b : Int) := rfl; omega)) (fun t ht => by cases ht; exact of_decide_eq_true rfl) ?_
    | refine qs_done ?_
    | refine q_cond2 rfl (fun hc => ?_) (fun hc => ?_)
    | refine q_skip ?_
    | refine q_ret ?_
    | refine fin_tmp rfl rfl rfl ?_
  · exact absurd (of_decide_eq_true hc) (by have : Int.ofNat b = (b : Int) := rfl; omega)
  all_goals refine ⟨?_, rfl, rfl⟩
  · rename_i h1
    have h2 : n.tmod (Int.ofNat b) < 0 := of_decide_eq_true hc
    unfold withinM
    rw [if_pos h2]
    rfl
  · have h2 : ¬ n.tmod (Int.ofNat b) < 0 := of_decide_eq_false hc
    unfold withinM
    rw [if_neg h2]
    rfl
end

attribute [local irreducible] forceN forceZ forceB okIf roundsK valK rowAt listK
set_option maxRecDepth 100000

def withinN (z : Int) (b : Nat) : Nat := (withinM z (.ofNat b)).toNat
theorem withinN_lt (z : Int) {b : Nat} (hb : 0 < b) (hb2 : b < 1000) : withinN z b < b := by
  obtain ⟨k, h1, h2⟩ := withinM_lt z b hb hb2
  rw [withinN, h2]; exact h1
theorem withinN_eq (z : Int) {b : Nat} (hb : 0 < b) (hb2 : b < 1000) : withinM z (.ofNat b) = .ofNat (withinN z b) := by
  obtain ⟨k, h1, h2⟩ := withinM_lt z b hb hb2
  rw [withinN, h2]; rfl

noncomputable def ovWithin : OvT := ovF fun
  | [.int .i64 z, .int .i64 (.ofNat b)] => some (Nat.ble 1 b && Nat.ble b 999, .int .i64 (.ofNat (withinN z b)))
  | _ => none
theorem ovWithin_ok : OvOK ρ Tryd.prog 7 ovWithin := ov_says fun args v h => by
  split at h
  · rename_i z b
    injection h with h
    injection h with g1 g2
    subst g2
    simp only [Bool.and_eq_true, Nat.ble_eq] at g1
    rw [← withinN_eq z (by omega) (by omega)]
    exact within_says z b g1.1
  · cases h

end Go.Proofs.YtibmbbogjkecoaaDoor.M

/- Comparisons of whole numbers whose signs are not known: natZ is a stop word here. -/
namespace Go.Proofs.YtibmbbogjkecoaaDoor.M
open Go
set_option linter.unusedSimpArgs false
set_option linter.unusedVariables false

theorem must_ok {y : Ans} (h : y = .ok) : must true y = .ok := h
theorem natZ_nat {a b : Nat} {f : Nat → Nat → Ans} {g : Ans} (h : f a b = .ok) : natZ (.ofNat a) (.ofNat b) f g = .ok := h
theorem forceN_mod {a b : Nat} {k : Nat → Ans} (h : k (a % b) = .ok) : forceN (Nat.mod a b) k = .ok := forceN_ok h
theorem forceN_div {a b : Nat} {k : Nat → Ans} (h : k (a / b) = .ok) : forceN (Nat.div a b) k = .ok := forceN_ok h
theorem forceB_as {b : Bool} (c : Bool) {k : Bool → Ans} (e : b = c) (h : k c = .ok) : forceB b k = .ok := by rw [forceB_eq, e]; exact h
/-- An answer that is not looked into. -/
noncomputable def ovRaw (F : List V → Option V) : OvT := fun args _ hp nx kr _ => match F args with
  | some v => kr v hp nx
  | none => .err 1
theorem ov_raw {ρ : Nat → Value} {P : Program} {f : FuncId} {F : List V → Option V} (h : ∀ args v, F args = some v → Says ρ P f args v) : OvOK ρ P f (ovRaw F) := by
  intro args forb hp nx kr kp hk
  unfold ovRaw at hk
  split at hk
  · rename_i v hv
    refine (h args v hv (absO hp) nx (inL forb)).mono ?_
    rintro o O m ⟨e1, e2, e3⟩
    subst e1 e2 e3
    exact ⟨hp, rfl, hk⟩
  · exact Ans.no hk
theorem boolK_dec {p : Prop} [Decidable p] {b : Bool} {x y : Ans} (hb : b = decide p) (h1 : p → x = .ok) (h2 : ¬ p → y = .ok) : boolK b x y = .ok := by
  subst hb
  by_cases h : p
  · rw [decide_eq_true h]; exact h1 h
  · rw [decide_eq_false h]; exact h2 h
theorem genI_bool {op : BinOp} {kd : IntKind} {m n : Int} {K : V → Ans} {b : Bool} (hb : binI op kd m n = some (.bool b)) (h : K (.bool b) = .ok) : genI op kd m n K = .ok := by
  unfold genI
  rw [hb]
  show giveV (.bool b) K = .ok
  show forceB b (fun b => K (.bool b)) = .ok
  rw [forceB_eq]
  exact h

theorem genI_int {op : BinOp} {kd : IntKind} {m n z : Int} {K : V → Ans} (hb : binI op kd m n = some (.int kd z)) (h : K (.int kd z) = .ok) : genI op kd m n K = .ok := by
  unfold genI
  rw [hb]
  show giveV (.int kd z) K = .ok
  show forceZ z (fun z => K (.int kd z)) = .ok
  rw [forceZ_eq]
  exact h
theorem natZ_add {m n : Int} {kd : IntKind} {K : V → Ans} (h : K (.int kd (kd.wrap (m + n))) = .ok) : natZ m n (fun a b => (natI .add).run kd a b K) (genI .add kd m n K) = .ok := by
  have hg : genI .add kd m n K = .ok := genI_int rfl h
  cases m with
  | negSucc a => exact hg
  | ofNat a =>
    cases n with
    | negSucc b => exact hg
    | ofNat b =>
      show (forceN (Nat.add a b) fun c => boolK (Nat.ble c (maxK kd)) (K (.int kd (.ofNat c))) (genI .add kd (.ofNat a) (.ofNat b) K)) = .ok
      rw [forceN_eq]
      cases hb : Nat.ble (Nat.add a b) (maxK kd) with
      | false => exact hg
      | true =>
        have e : kd.wrap (Int.ofNat a + Int.ofNat b) = Int.ofNat (Nat.add a b) := wrap_small (Nat.le_of_ble_eq_true hb)
        rw [e] at h
        exact h

theorem natZ_eql {m n : Int} {kd kd' : IntKind} {K : V → Ans} (h1 : m = n → K (.bool true) = .ok) (h2 : ¬ (m = n) → K (.bool false) = .ok) : natZ m n (fun a b => (natI .eql).run kd a b K) (genI .eql kd' m n K) = .ok := by
  have hg : genI .eql kd' m n K = .ok := by
    by_cases h : m = n
    · exact genI_bool (b := true) (by simp [binI]; exact h) (h1 h)
    · exact genI_bool (b := false) (by simp [binI]; exact h) (h2 h)
  cases m with
  | negSucc a => exact hg
  | ofNat a =>
    cases n with
    | negSucc b => exact hg
    | ofNat b =>
      show boolK (Nat.beq a b) (K (.bool true)) (K (.bool false)) = .ok
      cases hb : Nat.beq a b with
      | true => exact h1 (by rw [Nat.eq_of_beq_eq_true hb])
      | false => exact h2 (fun e => beq_false' hb (Int.ofNat.inj e))
theorem natZ_eql_t {m n : Int} {kd kd' : IntKind} {K : V → Ans} (h : m = n) (hk : K (.bool true) = .ok) : natZ m n (fun a b => (natI .eql).run kd a b K) (genI .eql kd' m n K) = .ok := natZ_eql (fun _ => hk) fun g => (g h).elim
theorem natZ_eql_f {m n : Int} {kd kd' : IntKind} {K : V → Ans} (h : ¬ (m = n)) (hk : K (.bool false) = .ok) : natZ m n (fun a b => (natI .eql).run kd a b K) (genI .eql kd' m n K) = .ok := natZ_eql (fun g => (h g).elim) fun _ => hk

theorem natZ_neq {m n : Int} {kd kd' : IntKind} {K : V → Ans} (h1 : m ≠ n → K (.bool true) = .ok) (h2 : ¬ (m ≠ n) → K (.bool false) = .ok) : natZ m n (fun a b => (natI .neq).run kd a b K) (genI .neq kd' m n K) = .ok := by
  have hg : genI .neq kd' m n K = .ok := by
    by_cases h : m ≠ n
    · exact genI_bool (b := true) (by simp [binI]; exact h) (h1 h)
    · exact genI_bool (b := false) (by simp [binI]; simpa using h) (h2 h)
  cases m with
  | negSucc a => exact hg
  | ofNat a =>
    cases n with
    | negSucc b => exact hg
    | ofNat b =>
      show boolK (Nat.beq a b) (K (.bool false)) (K (.bool true)) = .ok
      cases hb : Nat.beq a b with
      | true => exact h2 (fun e => e (by rw [Nat.eq_of_beq_eq_true hb]))
      | false => exact h1 (fun e => beq_false' hb (Int.ofNat.inj e))
theorem natZ_neqS {m n : Int} {kd kd' : IntKind} {K : V → Ans} (h1 : m ≠ n → K (.bool true) = .ok) (h2 : m = n → K (.bool false) = .ok) : natZ m n (fun a b => (natI .neq).run kd a b K) (genI .neq kd' m n K) = .ok :=
  natZ_neq h1 fun h => h2 (Decidable.not_not.mp h)
theorem natZ_neq_t {m n : Int} {kd kd' : IntKind} {K : V → Ans} (h : m ≠ n) (hk : K (.bool true) = .ok) : natZ m n (fun a b => (natI .neq).run kd a b K) (genI .neq kd' m n K) = .ok := natZ_neq (fun _ => hk) fun g => (g h).elim
theorem natZ_neq_f {m n : Int} {kd kd' : IntKind} {K : V → Ans} (h : ¬ (m ≠ n)) (hk : K (.bool false) = .ok) : natZ m n (fun a b => (natI .neq).run kd a b K) (genI .neq kd' m n K) = .ok := natZ_neq (fun g => (h g).elim) fun _ => hk

theorem natZ_lss {m n : Int} {kd kd' : IntKind} {K : V → Ans} (h1 : m < n → K (.bool true) = .ok) (h2 : ¬ (m < n) → K (.bool false) = .ok) : natZ m n (fun a b => (natI .lss).run kd a b K) (genI .lss kd' m n K) = .ok := by
  have hg : genI .lss kd' m n K = .ok := by
    by_cases h : m < n
    · exact genI_bool (b := true) (by simp [binI]; exact h) (h1 h)
    · exact genI_bool (b := false) (by simp [binI]; omega) (h2 h)
  cases m with
  | negSucc a => exact hg
  | ofNat a =>
    cases n with
    | negSucc b => exact hg
    | ofNat b =>
      show boolK (Nat.ble (Nat.succ a) b) (K (.bool true)) (K (.bool false)) = .ok
      cases hb : Nat.ble (Nat.succ a) b with
      | true => exact h1 (by have := Nat.le_of_ble_eq_true hb; show (((a : Nat) : Int) < ((b : Nat) : Int)); omega)
      | false => exact h2 (by have := ble_false hb; show ¬ (((a : Nat) : Int) < ((b : Nat) : Int)); omega)
theorem natZ_lss_t {m n : Int} {kd kd' : IntKind} {K : V → Ans} (h : m < n) (hk : K (.bool true) = .ok) : natZ m n (fun a b => (natI .lss).run kd a b K) (genI .lss kd' m n K) = .ok := natZ_lss (fun _ => hk) fun g => (g h).elim
theorem natZ_lss_f {m n : Int} {kd kd' : IntKind} {K : V → Ans} (h : ¬ (m < n)) (hk : K (.bool false) = .ok) : natZ m n (fun a b => (natI .lss).run kd a b K) (genI .lss kd' m n K) = .ok := natZ_lss (fun g => (h g).elim) fun _ => hk

theorem natZ_leq {m n : Int} {kd kd' : IntKind} {K : V → Ans} (h1 : m ≤ n → K (.bool true) = .ok) (h2 : ¬ (m ≤ n) → K (.bool false) = .ok) : natZ m n (fun a b => (natI .leq).run kd a b K) (genI .leq kd' m n K) = .ok := by
  have hg : genI .leq kd' m n K = .ok := by
    by_cases h : m ≤ n
    · exact genI_bool (b := true) (by simp [binI]; exact h) (h1 h)
    · exact genI_bool (b := false) (by simp [binI]; omega) (h2 h)
  cases m with
  | negSucc a => exact hg
  | ofNat a =>
    cases n with
    | negSucc b => exact hg
    | ofNat b =>
      show boolK (Nat.ble a b) (K (.bool true)) (K (.bool false)) = .ok
      cases hb : Nat.ble a b with
      | true => exact h1 (by have := Nat.le_of_ble_eq_true hb; show (((a : Nat) : Int) ≤ ((b : Nat) : Int)); omega)
      | false => exact h2 (by have := ble_false hb; show ¬ (((a : Nat) : Int) ≤ ((b : Nat) : Int)); omega)
theorem natZ_leq_t {m n : Int} {kd kd' : IntKind} {K : V → Ans} (h : m ≤ n) (hk : K (.bool true) = .ok) : natZ m n (fun a b => (natI .leq).run kd a b K) (genI .leq kd' m n K) = .ok := natZ_leq (fun _ => hk) fun g => (g h).elim
theorem natZ_leq_f {m n : Int} {kd kd' : IntKind} {K : V → Ans} (h : ¬ (m ≤ n)) (hk : K (.bool false) = .ok) : natZ m n (fun a b => (natI .leq).run kd a b K) (genI .leq kd' m n K) = .ok := natZ_leq (fun g => (h g).elim) fun _ => hk

theorem natZ_gtr {m n : Int} {kd kd' : IntKind} {K : V → Ans} (h1 : n < m → K (.bool true) = .ok) (h2 : ¬ (n < m) → K (.bool false) = .ok) : natZ m n (fun a b => (natI .gtr).run kd a b K) (genI .gtr kd' m n K) = .ok := by
  have hg : genI .gtr kd' m n K = .ok := by
    by_cases h : n < m
    · exact genI_bool (b := true) (by simp [binI]; exact h) (h1 h)
    · exact genI_bool (b := false) (by simp [binI]; omega) (h2 h)
  cases m with
  | negSucc a => exact hg
  | ofNat a =>
    cases n with
    | negSucc b => exact hg
    | ofNat b =>
      show boolK (Nat.ble (Nat.succ b) a) (K (.bool true)) (K (.bool false)) = .ok
      cases hb : Nat.ble (Nat.succ b) a with
      | true => exact h1 (by have := Nat.le_of_ble_eq_true hb; show (((b : Nat) : Int) < ((a : Nat) : Int)); omega)
      | false => exact h2 (by have := ble_false hb; show ¬ (((b : Nat) : Int) < ((a : Nat) : Int)); omega)
theorem natZ_gtr_t {m n : Int} {kd kd' : IntKind} {K : V → Ans} (h : n < m) (hk : K (.bool true) = .ok) : natZ m n (fun a b => (natI .gtr).run kd a b K) (genI .gtr kd' m n K) = .ok := natZ_gtr (fun _ => hk) fun g => (g h).elim
theorem natZ_gtr_f {m n : Int} {kd kd' : IntKind} {K : V → Ans} (h : ¬ (n < m)) (hk : K (.bool false) = .ok) : natZ m n (fun a b => (natI .gtr).run kd a b K) (genI .gtr kd' m n K) = .ok := natZ_gtr (fun g => (h g).elim) fun _ => hk

theorem natZ_geq {m n : Int} {kd kd' : IntKind} {K : V → Ans} (h1 : n ≤ m → K (.bool true) = .ok) (h2 : ¬ (n ≤ m) → K (.bool false) = .ok) : natZ m n (fun a b => (natI .geq).run kd a b K) (genI .geq kd' m n K) = .ok := by
  have hg : genI .geq kd' m n K = .ok := by
    by_cases h : n ≤ m
    · exact genI_bool (b := true) (by simp [binI]; exact h) (h1 h)
    · exact genI_bool (b := false) (by simp [binI]; omega) (h2 h)
  cases m with
  | negSucc a => exact hg
  | ofNat a =>
    cases n with
    | negSucc b => exact hg
    | ofNat b =>
      show boolK (Nat.ble b a) (K (.bool true)) (K (.bool false)) = .ok
      cases hb : Nat.ble b a with
      | true => exact h1 (by have := Nat.le_of_ble_eq_true hb; show (((b : Nat) : Int) ≤ ((a : Nat) : Int)); omega)
      | false => exact h2 (by have := ble_false hb; show ¬ (((b : Nat) : Int) ≤ ((a : Nat) : Int)); omega)
theorem natZ_geq_t {m n : Int} {kd kd' : IntKind} {K : V → Ans} (h : n ≤ m) (hk : K (.bool true) = .ok) : natZ m n (fun a b => (natI .geq).run kd a b K) (genI .geq kd' m n K) = .ok := natZ_geq (fun _ => hk) fun g => (g h).elim
theorem natZ_geq_f {m n : Int} {kd kd' : IntKind} {K : V → Ans} (h : ¬ (n ≤ m)) (hk : K (.bool false) = .ok) : natZ m n (fun a b => (natI .geq).run kd a b K) (genI .geq kd' m n K) = .ok := natZ_geq (fun g => (h g).elim) fun _ => hk

/-- Not looked into. -/
theorem natZ_gtr_raw {m n : Int} {kd kd' : IntKind} {K : V → Ans} (hk : K (.bool (decide (n < m))) = .ok) : natZ m n (fun a b => (natI .gtr).run kd a b K) (genI .gtr kd' m n K) = .ok :=
  natZ_gtr (fun h => by rwa [decide_eq_true h] at hk) (fun h => by rwa [decide_eq_false h] at hk)
theorem natZ_quo {m n : Int} {b : Nat} {kd : IntKind} {K : V → Ans} (hn : n = .ofNat b) (hb : 1 ≤ b) (h : K (.int kd (kd.wrap (m.tdiv n))) = .ok) :
    natZ m n (fun a b => must (Nat.ble 1 b) (forceN (Nat.div a b) fun c => boolK (Nat.ble c (maxK kd)) (K (.int kd (.ofNat c))) (divK kd n (kd.wrap (m.tdiv n)) K))) (divK kd n (kd.wrap (m.tdiv n)) K) = .ok := by
  subst hn
  have hd : divK kd (.ofNat b) (kd.wrap (m.tdiv (.ofNat b))) K = .ok := by
    unfold divK
    have : decide ((Int.ofNat b : Int) ≠ 0) = true := decide_eq_true (by intro e; have e : (b : Int) = 0 := e; omega)
    rw [this]
    refine must_ok ?_
    rw [forceZ_eq]
    exact h
  cases m with
  | negSucc a => exact hd
  | ofNat a =>
    show must (Nat.ble 1 b) (forceN (Nat.div a b) fun c => boolK (Nat.ble c (maxK kd)) (K (.int kd (.ofNat c))) (divK kd (.ofNat b) (kd.wrap ((Int.ofNat a).tdiv (.ofNat b))) K)) = .ok
    rw [Nat.ble_eq_true_of_le hb]
    refine must_ok ?_
    rw [forceN_eq]
    cases hc : Nat.ble (Nat.div a b) (maxK kd) with
    | false => exact hd
    | true =>
      have e : (Int.ofNat a).tdiv (Int.ofNat b) = Int.ofNat (Nat.div a b) := rfl
      rw [e, wrap_small (Nat.le_of_ble_eq_true hc)] at h
      exact h

end Go.Proofs.YtibmbbogjkecoaaDoor.M

/- Answers of which no more is known than that something holds of them. -/
namespace Go.Proofs.YtibmbbogjkecoaaDoor.M
open Go
set_option linter.unusedSimpArgs false
set_option linter.unusedVariables false
variable {ρ : Nat → Value} {P : Program}

/-- Whatever there is: something of R is answered, and nothing else is done. -/
def SaysE (ρ : Nat → Value) (P : Program) (f : FuncId) (args : List V) (R : V → Prop) : Prop :=
  ∀ (objs : Objs) (next : Nat) (forb : CellP), QCalls ρ P f args objs next forb (fun o O m => ∃ v, o = .ret v ∧ R v ∧ O = objs ∧ m = next)

noncomputable def allK (R : V → Prop) (k : V → Ans) : Ans := okIf (∀ v, R v → k v = .ok)
theorem allK_ok {R : V → Prop} {k : V → Ans} (h : ∀ v, R v → k v = .ok) : allK R k = .ok := okIf_ok h
theorem allK_inv {R : V → Prop} {k : V → Ans} (h : allK R k = .ok) : ∀ v, R v → k v = .ok := okIf_inv h

noncomputable def ovE (D : List V → Option (Prop × (V → Prop))) : OvT := fun args _ hp nx kr _ => match D args with
  | some (c, R) => askP c (allK R fun v => kr v hp nx)
  | none => .err 1
theorem ov_saysE {f : FuncId} {D : List V → Option (Prop × (V → Prop))} (h : ∀ args c R, D args = some (c, R) → c → SaysE ρ P f args R) : OvOK ρ P f (ovE D) := by
  intro args forb hp nx kr kp hk
  unfold ovE at hk
  split at hk
  · rename_i c R hD
    obtain ⟨hc, hk⟩ := askP_inv hk
    have hk := allK_inv hk
    refine (h args c R hD hc (absO hp) nx (inL forb)).mono ?_
    rintro o O m ⟨v, e1, hv, e2, e3⟩
    subst e1 e2 e3
    exact ⟨hp, rfl, hk v hv⟩
  · exact Ans.no hk

theorem saysE_frame {f : FuncId} {args : List V} {R : V → Prop} (hargs : ∀ q ∈ args, Arg2 [] q q) (h : QCalls ρ P f args (fun _ => none) 0 (fun _ _ _ => False) (fun o O m => ∃ v v', o = .ret v ∧ Frz (fun _ => True) O v v' ∧ R v')) : SaysE ρ P f args R := by
  intro objs next forb
  have h2 : QCalls ρ P f args (fun i : Nat => ([] : List Ob)[i]?) ([] : List Ob).length (fun _ _ _ => False) (Inner ([] : List Ob).length fun o _ => ∃ v', o = .ret v' ∧ R v') := by
    have e : (fun i : Nat => ([] : List Ob)[i]?) = fun _ => none := by funext i; simp
    rw [e]
    refine h.mono ?_
    rintro o O m ⟨v, v', rfl, hv, hR⟩
    refine ⟨.ret v', [], .ret ?_, rfl, fun i ob' hi => by simp at hi, v', rfl, hR⟩
    have e2 : (fun j => ([] : List Ob).length ≤ j) = fun _ => True := by funext j; simp
    rw [e2]
    exact hv
  refine (frame (κ := []) List.nodup_nil rfl (fun ob hob => by cases hob) ⟨rfl, fun i q q' h1 h2 => ?_⟩ h2 (fun i k hi => by simp at hi) (fun i k r c hi => by simp at hi)).mono ?_
  · rw [h1] at h2
    cases h2
    exact hargs q (List.mem_of_getElem? h1)
  · rintro o O m ⟨obs', _, ⟨v', rfl, hR⟩, rfl, rfl⟩
    exact ⟨v', rfl, hR, by cases obs' <;> rfl, rfl⟩

theorem saysE_run (hm : P.follows .mixedOrders = true) {G : Gl} (hG : GOK' P G) {call : CallT} (hc : CallOK ρ P call) {f : FuncId} {args : List V} {R : V → Prop} (hargs : ∀ q ∈ args, Arg2 [] q q)
    (h : (bdy P G f).run call args [] hp0 0 (fun v hp _ => okIf (∃ v', Frz (fun _ => True) (absO hp) v v' ∧ R v')) (fun _ _ _ => .err 8) = .ok) : SaysE ρ P f args R := by
  refine saysE_frame hargs ?_
  have := bdy_sound (ρ := ρ) hm hG hc h
  rw [absO_hp0, inL_nil] at this
  refine this.mono fun o O m hr => ?_
  cases o with
  | ret v =>
    obtain ⟨hp, rfl, h⟩ := hr
    obtain ⟨v', h1, h2⟩ := okIf_inv h
    exact ⟨v, v', rfl, h1, h2⟩
  | panic v =>
    obtain ⟨hp, _, h⟩ := hr
    exact Ans.no h

/-- A function's body in place of its call. -/
noncomputable def inl (f : FuncId) (call : CallT) : OvT := fun args forb hp nx kr kp => (bdy Tryd.prog globL f).run call args forb hp nx kr kp
theorem inl_ok (f : FuncId) {call : CallT} (hc : CallOK ρ Tryd.prog call) : OvOK ρ Tryd.prog f (inl f call) := ov_of_body follows globL_ok hc fun _ _ _ _ _ _ h => h

end Go.Proofs.YtibmbbogjkecoaaDoor.M

/- pat.Check: a plain model, and the walk. -/
namespace Go.Proofs.YtibmbbogjkecoaaDoor.M
open Go
set_option linter.unusedSimpArgs false
set_option linter.unusedVariables false
variable {ρ : Nat → Value}

/-- A pattern's node. -/
structure Nd where
  (k a b n : Int)
  (l x : Nat)
def Nd.row (d : Nd) : List V := [.int .i64 d.k, .int .i64 d.a, .int .i64 d.b, .int .i64 d.n, .ps d.l d.x]
/-- A part that is whole: its last place, is there a star in it. -/
def pcRow (p : Nat × Bool) : List V := [.int .i64 (.ofNat p.1), .bool p.2]
/-- The parts that are whole, the last one first. -/
def pcs (st : List (Nat × Bool)) : List (List V) := st.reverse.map pcRow

def wstep (tags : Int) (i : Nat) (d : Nd) (st : List (Nat × Bool)) : Option (List (Nat × Bool)) :=
  if d.k = 1 ∨ d.k = 2 then (if d.a = 0 ∧ d.b = 0 ∧ d.n = 0 then some ((i, false) :: st) else none)
  else if d.k = 3 then (if 0 ≤ d.n ∧ d.n < tags ∧ 1 ≤ d.a ∧ d.a ≤ 999999999 ∧ d.b = 0 then some ((i, false) :: st) else none)
  else if d.k = 4 ∨ d.k = 5 then (match st with
    | y :: x :: t => if d.a = .ofNat x.1 ∧ d.b = .ofNat y.1 ∧ d.n = 0 then some ((i, x.2 || y.2) :: t) else none
    | _ => none)
  else if d.k = 6 then (match st with
    | y :: t => if y.2 = false ∧ d.a = .ofNat y.1 ∧ d.b = 0 ∧ d.n = 0 then some ((i, true) :: t) else none
    | _ => none)
  else none

section
variable {tags k a b n : Int} {i l x : Nat} {st t : List (Nat × Bool)} {p q : Nat × Bool}
theorem w_leaf (h : k = 1 ∨ k = 2) (h2 : a = 0 ∧ b = 0 ∧ n = 0) : wstep tags i ⟨k, a, b, n, l, x⟩ st = some ((i, false) :: st) := by simp [wstep, h, h2]
theorem w_leafN (h : k = 1 ∨ k = 2) (h2 : ¬ (a = 0 ∧ b = 0 ∧ n = 0)) : wstep tags i ⟨k, a, b, n, l, x⟩ st = none := by simp [wstep, h, h2]
theorem w_tag (h : k = 3) (h2 : 0 ≤ n ∧ n < tags ∧ 1 ≤ a ∧ a ≤ 999999999 ∧ b = 0) : wstep tags i ⟨k, a, b, n, l, x⟩ st = some ((i, false) :: st) := by simp [wstep, h, h2]
theorem w_tagN (h : k = 3) (h2 : ¬ (0 ≤ n ∧ n < tags ∧ 1 ≤ a ∧ a ≤ 999999999 ∧ b = 0)) : wstep tags i ⟨k, a, b, n, l, x⟩ st = none := by simp only [wstep, h, h2]; simp
theorem w_bin0 (h : k = 4 ∨ k = 5) : wstep tags i ⟨k, a, b, n, l, x⟩ [] = none := by rcases h with h | h <;> simp [wstep, h]
theorem w_bin1 (h : k = 4 ∨ k = 5) : wstep tags i ⟨k, a, b, n, l, x⟩ [p] = none := by rcases h with h | h <;> simp [wstep, h]
theorem w_bin (h : k = 4 ∨ k = 5) (h2 : a = .ofNat q.1 ∧ b = .ofNat p.1 ∧ n = 0) : wstep tags i ⟨k, a, b, n, l, x⟩ (p :: q :: t) = some ((i, q.2 || p.2) :: t) := by rcases h with h | h <;> simp only [wstep, h, h2] <;> simp
theorem w_binN (h : k = 4 ∨ k = 5) (h2 : ¬ (a = .ofNat q.1 ∧ b = .ofNat p.1 ∧ n = 0)) : wstep tags i ⟨k, a, b, n, l, x⟩ (p :: q :: t) = none := by rcases h with h | h <;> simp only [wstep, h, h2] <;> simp
theorem w_star0 (h : k = 6) : wstep tags i ⟨k, a, b, n, l, x⟩ [] = none := by simp [wstep, h]
theorem w_star (h : k = 6) (h1 : p.2 = false) (h2 : a = .ofNat p.1 ∧ b = 0 ∧ n = 0) : wstep tags i ⟨k, a, b, n, l, x⟩ (p :: t) = some ((i, true) :: t) := by simp only [wstep, h, h1, h2]; simp
theorem w_starN (h : k = 6) (h2 : ¬ (p.2 = false ∧ a = .ofNat p.1 ∧ b = 0 ∧ n = 0)) : wstep tags i ⟨k, a, b, n, l, x⟩ (p :: t) = none := by simp only [wstep, h, h2]; simp
theorem w_else (h : ¬ (k = 1 ∨ k = 2) ∧ ¬ k = 3 ∧ ¬ (k = 4 ∨ k = 5) ∧ ¬ k = 6) : wstep tags i ⟨k, a, b, n, l, x⟩ st = none := by
  obtain ⟨h1, h2, h3, h4⟩ := h
  simp [wstep, h1, h2, h3, h4]
end
def wfold (tags : Int) : List Nd → Nat → List (Nat × Bool) → Bool
  | [], _, st => decide (st.length = 1)
  | d :: t, i, st => match wstep tags i d st with
    | some st' => wfold tags t (i + 1) st'
    | none => false
/-- Is it a pattern? -/
def checkM (tags : Int) (l : List Nd) : Bool := decide (1 ≤ l.length) && (decide (l.length ≤ 24) && wfold tags l 0 [])

theorem wfold_step {tags : Int} {l : List Nd} {d : Nd} {i : Nat} {st : List (Nat × Bool)} (h : l[i]? = some d) : wfold tags (l.drop i) i st = match wstep tags i d st with
    | some st' => wfold tags (l.drop (i + 1)) (i + 1) st'
    | none => false := by
  obtain ⟨hlt, he⟩ := List.getElem?_eq_some_iff.mp h
  rw [List.drop_eq_getElem_cons hlt, he]
  rfl
theorem wfold_end {tags : Int} {l : List Nd} {i : Nat} {st : List (Nat × Bool)} (h : l.length ≤ i) : wfold tags (l.drop i) i st = decide (st.length = 1) := by
  rw [List.drop_eq_nil_of_le h]
  rfl

theorem pcs_len (st : List (Nat × Bool)) : (pcs st).length = st.length := by simp [pcs]
theorem pcs_push (x : Nat × Bool) (st : List (Nat × Bool)) : pcs (x :: st) = pcs st ++ [pcRow x] := by simp [pcs]
theorem pcs_take1 (x : Nat × Bool) (st : List (Nat × Bool)) : (pcs (x :: st)).take st.length = pcs st := by rw [pcs_push, ← pcs_len st, List.take_left]
theorem pcs_take2 (x y : Nat × Bool) (st : List (Nat × Bool)) : (pcs (x :: y :: st)).take st.length = pcs st := by
  rw [pcs_push, pcs_push, List.append_assoc, ← pcs_len st, List.take_left]
theorem pcs_pop0 {x : Nat × Bool} {st : List (Nat × Bool)} {n : Nat} (h : n = st.length) : (pcs st).take n ++ [pcRow x] = pcs (x :: st) := by rw [pcs_push, h, ← pcs_len st, List.take_length]
theorem pcs_pop1 {p x : Nat × Bool} {st : List (Nat × Bool)} {n : Nat} (h : n = (p :: st).length) : (pcs (p :: st)).take (n - 1) ++ [pcRow x] = pcs (x :: st) := by
  rw [h, List.length_cons, Nat.add_sub_cancel, pcs_take1, pcs_push]
theorem pcs_pop2 {p q x : Nat × Bool} {st : List (Nat × Bool)} {n : Nat} (h : n = (p :: q :: st).length) : (pcs (p :: q :: st)).take (n - 2) ++ [pcRow x] = pcs (x :: st) := by
  rw [h, List.length_cons, List.length_cons, show st.length + 1 + 1 - 2 = st.length by omega, pcs_take2, pcs_push]
theorem pcs_top (x : Nat × Bool) (st : List (Nat × Bool)) : (pcs (x :: st))[st.length]? = some [.int .i64 (.ofNat x.1), .bool x.2] := by
  rw [pcs_push, ← pcs_len st, List.getElem?_append_right (Nat.le_refl _), Nat.sub_self]
  rfl
theorem pcs_top2 (x y : Nat × Bool) (st : List (Nat × Bool)) : (pcs (x :: y :: st))[st.length]? = some [.int .i64 (.ofNat y.1), .bool y.2] := by
  rw [pcs_push, List.getElem?_append_left (by rw [pcs_len]; simp)]
  exact pcs_top y st

/-! ### Nodes, compared -/

def isStruct : Option Sh → Bool
  | some (.struct _) => true
  | _ => false
theorem isStruct_ok {o : Option Sh} (h : isStruct o = true) : ∃ F, o = some (.struct F) := by
  unfold isStruct at h
  split at h
  · exact ⟨_, rfl⟩
  · cases h
theorem qBin_neqA {P : Program} {t : TypeId} {fs : List (Nat × Nat)} (h1 : isStruct (shOf P t) = true) (h2 : eqTy P t = some fs) (x y : Operand) : qBin P .neq t x y = q2 x y fun v u _ hs k => aggsK fs v u fun p => k (.bool (!p)) hs := by
  obtain ⟨F, h⟩ := isStruct_ok h1
  unfold qBin
  simp only [h]
  unfold qAgg
  rw [h2]
theorem qBin_eqlA {P : Program} {t : TypeId} {fs : List (Nat × Nat)} (h1 : isStruct (shOf P t) = true) (h2 : eqTy P t = some fs) (x y : Operand) : qBin P .eql t x y = q2 x y fun v u _ hs k => aggsK fs v u fun p => k (.bool p) hs := by
  obtain ⟨F, h⟩ := isStruct_ok h1
  unfold qBin
  simp only [h]
  unfold qAgg
  rw [h2]
def ndFs : List (Nat × Nat) := [(0, 0), (1, 0), (2, 0), (3, 0), (4, 2)]
theorem ndStruct : isStruct (shOf Tryd.prog 45) = true := by decide +kernel
theorem ndEqTy : eqTy Tryd.prog 45 = some ndFs := by decide +kernel
theorem qNd (x y : Operand) : qBin Tryd.prog .neq 45 x y = q2 x y fun v u _ hs k => aggsK ndFs v u fun p => k (.bool (!p)) hs := qBin_neqA ndStruct ndEqTy x y
theorem nd_split {k a b n k' a' b' n' : Int} {l x l' x' : Nat} {f : Bool → Ans} (h1 : (k = k' ∧ a = a' ∧ b = b' ∧ n = n' ∧ l = l' ∧ x = x') → f true = .ok) (h2 : ¬ (k = k' ∧ a = a' ∧ b = b' ∧ n = n' ∧ l = l' ∧ x = x') → f false = .ok) :
    aggsK ndFs (.agg [.int .i64 k, .int .i64 a, .int .i64 b, .int .i64 n, .ps l x]) (.agg [.int .i64 k', .int .i64 a', .int .i64 b', .int .i64 n', .ps l' x']) f = .ok := by
  show optK (eqL ndFs [.int .i64 k, .int .i64 a, .int .i64 b, .int .i64 n, .ps l x] [.int .i64 k', .int .i64 a', .int .i64 b', .int .i64 n', .ps l' x']) (fun b => forceB b f) = .ok
  have e : eqL ndFs [.int .i64 k, .int .i64 a, .int .i64 b, .int .i64 n, .ps l x] [.int .i64 k', .int .i64 a', .int .i64 b', .int .i64 n', .ps l' x'] = some (decide (k = k' ∧ a = a' ∧ b = b' ∧ n = n' ∧ l = l' ∧ x = x')) := by
    have hb : ∀ p q : Int, (p == q) = decide (p = q) := fun p q => by by_cases h : p = q <;> simp [h]
    have hn : ∀ p q : Nat, Nat.beq p q = decide (p = q) := fun p q => by
      by_cases h : p = q
      · subst h; simp
      · rw [decide_eq_false h]; exact beq_false_iff.mpr h
    simp only [ndFs, eqL, eqC, hb, hn]
    by_cases g1 : k = k' <;> by_cases g2 : a = a' <;> by_cases g3 : b = b' <;> by_cases g4 : n = n' <;> by_cases g5 : l = l' <;> by_cases g6 : x = x' <;> simp [g1, g2, g3, g4, g5, g6]
  rw [e]
  show forceB _ f = .ok
  rw [forceB_eq]
  by_cases g : k = k' ∧ a = a' ∧ b = b' ∧ n = n' ∧ l = l' ∧ x = x'
  · rw [decide_eq_true g]; exact h1 g
  · rw [decide_eq_false g]; exact h2 g

attribute [local irreducible] forceN forceZ forceB okIf roundsK valK rowAt listK
attribute [local irreducible] acc4 get4 put4 natZ aggsK
set_option maxRecDepth 100000

set_option maxHeartbeats 4000000 in
theorem check_says (l : List Nd) (tags : Int) (hl : l.length ≤ 140737488355328) : Says ρ Tryd.prog 11 [.ro 5 (l.map Nd.row), .int .i64 tags] (.bool (checkM tags l)) := by
  have hml : (l.map Nd.row).length = l.length := by simp
  refine says_run (call := over 19 (inl 19 (over 20 (inl 20 call0) call0)) call0) follows globL_ok
    (over_ok (inl_ok _ (over_ok (inl_ok _ call0_ok) call0_ok)) call0_ok) (arg2 rfl rfl) ?_
  repeat' ((conv => lhs; whnf); first | ((with_reducible show natZ _ _ _ _ = _); first | refine natZ_nat ?_ | refine natZ_add ?_ | refine natZ_eql_t (by first | assumption | omega) ?_ | refine natZ_eql_f (by first | assumption | omega) ?_ | refine natZ_eql (fun h => ?_) (fun h => ?_) | refine natZ_neq_t (by first | assumption | omega) ?_ | refine natZ_neq_f (by first | assumption | omega) ?_ | (refine natZ_neqS (fun h => ?_) (fun h => ?_) <;> (try subst h)) | refine natZ_lss_t (by first | assumption | omega) ?_ | refine natZ_lss_f (by first | assumption | omega) ?_ | refine natZ_lss (fun h => ?_) (fun h => ?_) | refine natZ_leq_t (by first | assumption | omega) ?_ | refine natZ_leq_f (by first | assumption | omega) ?_ | refine natZ_leq (fun h => ?_) (fun h => ?_) | refine natZ_gtr_t (by first | assumption | omega) ?_ | refine natZ_gtr_f (by first | assumption | omega) ?_ | refine natZ_gtr (fun h => ?_) (fun h => ?_) | refine natZ_geq_t (by first | assumption | omega) ?_ | refine natZ_geq_f (by first | assumption | omega) ?_ | refine natZ_geq (fun h => ?_) (fun h => ?_) | refine natZ_quo (b := 8) rfl (by omega) ?_ | refine natZ_quo (b := 16) rfl (by omega) ?_ | refine natZ_quo (b := 64) rfl (by omega) ?_ | fail) | ((with_reducible show valK _ _ = _); first | ((conv => lhs; arg 1; whnf); refine valK_ok ?_) | fail) | ((with_reducible show listK _ _ = _); first | ((conv => lhs; arg 1; whnf); first | refine listK_cons ?_ | refine listK_nil ?_) | fail) | ((with_reducible show forceB _ _ = _); first | refine forceB_ok ?_ | fail) | ((with_reducible show forceN _ _ = _); first | refine forceN_mod ?_ | refine forceN_div ?_ | refine forceN_add ?_ | refine forceN_sub ?_ | refine forceN_suc ?_ | refine forceN_part ?_ | refine forceN_byte ?_ | refine forceN_ok ?_ | fail) | ((with_reducible show forceZ _ _ = _); first | refine forceZ_add ?_ | refine forceZ_mul (by (try simp only [maxK]); omega) ?_ | refine forceZ_sub ?_ | refine forceZ_ok ?_ | fail) | ((with_reducible show rowAt _ _ _ = _); first | refine rowAt_ok (byteRows_get (by (try simp only [maxK]); omega)) ?_ | (apply rowAt_ok; (focus assumption)) | fail) | ((with_reducible show Bool.rec (motive := fun _ => AnsT) _ _ _ = _); first | refine br_true (Nat.beq_refl _) ?_ | refine br_true (by assumption) ?_ | refine br_false (by assumption) ?_ | refine br_max (by (try simp only [maxK]); omega) ?_ | refine br_ble_t (by (try simp only [maxK]); omega) ?_ | refine br_ble_f (by (try simp only [maxK]); omega) ?_ | refine br_beq_f (by (try simp only [maxK]); omega) ?_ | refine br_true (by simp only [Bool.and_eq_true, Nat.ble_eq]; (try simp only []); omega) ?_ | (refine br_ble (fun h => ?_) (fun h => ?_) <;> (try simp only [] at h)) | (refine br_beq (fun h => ?_) (fun h => ?_) <;> (try simp only [] at h)) | refine br_split (fun h => ?_) (fun h => ?_) | fail) | ((with_reducible show (acc4 _ _).upd _ _ _ = _); first | refine acc4_upd_ok (by omega) ?_ | fail) | ((with_reducible show (acc4 _ _).get _ _ = _); first | refine acc4_get_same (by omega) ?_ | refine acc4_get_other (by omega) (by omega) (by omega) ?_ | refine acc4_get_ok (by omega) (by assumption) ?_ | fail) | refine opt3_split (fun h => ?_) (fun kind num tl h => ?_) | refine int_split (fun a h => ?_) (fun a h => ?_) | fail)
  all_goals (try (conv => lhs; whnf))
  · refine okIf_ok (frz_bool ?_)
    rw [checkM, decide_eq_false (by omega)]
    rfl
  · refine okIf_ok (frz_bool ?_)
    rw [checkM, decide_eq_false (p := l.length ≤ 24) (by omega), Bool.false_and, Bool.and_false]
  have hck : checkM tags l = wfold tags l 0 [] := by
    rw [checkM, decide_eq_true (by omega), decide_eq_true (by omega)]
    rfl
  rw [hck]
  refine loop_ok (fun m tm hp nx => ∃ i st, m = l.length - i ∧ i ≤ l.length ∧ wfold tags (l.drop i) i st = wfold tags l 0 [] ∧ st.length ≤ i ∧ get4 hp 0 = .cell [.int .i64 tags] ∧ 1 ≤ nx ∧ nx + 10 * m ≤ 1000 ∧
    (st = [] ∧ get2 tm 5 = .sc (.slice none 0 0) ∨ ∃ j n, 0 < j ∧ j < nx ∧ n = st.length ∧ get4 hp j = .ls 2 (pcs st) ∧ get2 tm 5 = .sl j 0 n false) ∧
    get2 tm 1 = .fn 20 [.ptr 0 0 0] ∧ get2 tm 18 = .ro 5 (l.map Nd.row) ∧ get2 tm 19 = .int .i64 (.ofNat (l.map Nd.row).length) ∧ get2 tm 20 = .int .i64 (.ofNat i) ∧ get2 tm 255 = .un) (m := l.length) (by omega)
    ⟨0, [], rfl, by omega, rfl, by simp, get4_same (by omega), by omega, by omega, .inl ⟨rfl, rfl⟩, rfl, rfl, rfl, rfl, rfl⟩ ?_
  rintro m tm hp nx ⟨i, st, rfl, hi, hr, hst, h0, hnx, hnx2, hacc, e1, e18, e19, e20, e255⟩ k hk
  (obtain ⟨y0, y1, y2, y3, y4, y5, y6, y7, y8, y9, y10, y11, y12, y13, y14, y15⟩ := tm; obtain ⟨x0, x1, x2, x3, x4, x5, x6, x7, x8, x9, x10, x11, x12, x13, x14, x15⟩ := y0; obtain ⟨x16, x17, x18, x19, x20, x21, x22, x23, x24, x25, x26, x27, x28, x29, x30, x31⟩ := y1; obtain ⟨x32, x33, x34, x35, x36, x37, x38, x39, x40, x41, x42, x43, x44, x45, x46, x47⟩ := y2; obtain ⟨x48, x49, x50, x51, x52, x53, x54, x55, x56, x57, x58, x59, x60, x61, x62, x63⟩ := y3; obtain ⟨x64, x65, x66, x67, x68, x69, x70, x71, x72, x73, x74, x75, x76, x77, x78, x79⟩ := y4; obtain ⟨x80, x81, x82, x83, x84, x85, x86, x87, x88, x89, x90, x91, x92, x93, x94, x95⟩ := y5; obtain ⟨x96, x97, x98, x99, x100, x101, x102, x103, x104, x105, x106, x107, x108, x109, x110, x111⟩ := y6; obtain ⟨x112, x113, x114, x115, x116, x117, x118, x119, x120, x121, x122, x123, x124, x125, x126, x127⟩ := y7; obtain ⟨x240, x241, x242, x243, x244, x245, x246, x247, x248, x249, x250, x251, x252, x253, x254, x255⟩ := y15)
  cases e1
  cases e18
  cases e19
  cases e20
  cases e255
  rcases Nat.lt_or_ge i l.length with hlt | hge
  · obtain ⟨d, hd⟩ : ∃ d, l[i]? = some d := ⟨_, List.getElem?_eq_getElem hlt⟩
    obtain ⟨dk, da, db, dn, dl, dx⟩ := d
    have hrow : (l.map Nd.row)[i]? = some [.int .i64 dk, .int .i64 da, .int .i64 db, .int .i64 dn, .ps dl dx] := by rw [List.getElem?_map, hd]; rfl
    rw [wfold_step hd] at hr
    rcases hacc with ⟨rfl, e5⟩ | ⟨j, n, hj0, hj, hn, hob, e5⟩
    · cases e5
      repeat' (first | ((conv => lhs; whnf); first | ((with_reducible show natZ _ _ _ _ = _); first | refine natZ_nat ?_ | refine natZ_add ?_ | refine natZ_eql_t (by first | assumption | omega) ?_ | refine natZ_eql_f (by first | assumption | omega) ?_ | refine natZ_eql (fun h => ?_) (fun h => ?_) | refine natZ_neq_t (by first | assumption | omega) ?_ | refine natZ_neq_f (by first | assumption | omega) ?_ | (refine natZ_neqS (fun h => ?_) (fun h => ?_) <;> (try subst h)) | refine natZ_lss_t (by first | assumption | omega) ?_ | refine natZ_lss_f (by first | assumption | omega) ?_ | refine natZ_lss (fun h => ?_) (fun h => ?_) | refine natZ_leq_t (by first | assumption | omega) ?_ | refine natZ_leq_f (by first | assumption | omega) ?_ | refine natZ_leq (fun h => ?_) (fun h => ?_) | refine natZ_gtr_t (by first | assumption | omega) ?_ | refine natZ_gtr_f (by first | assumption | omega) ?_ | refine natZ_gtr (fun h => ?_) (fun h => ?_) | refine natZ_geq_t (by first | assumption | omega) ?_ | refine natZ_geq_f (by first | assumption | omega) ?_ | refine natZ_geq (fun h => ?_) (fun h => ?_) | refine natZ_quo (b := 8) rfl (by omega) ?_ | refine natZ_quo (b := 16) rfl (by omega) ?_ | refine natZ_quo (b := 64) rfl (by omega) ?_ | fail) | ((with_reducible show valK _ _ = _); first | ((conv => lhs; arg 1; whnf); refine valK_ok ?_) | fail) | ((with_reducible show listK _ _ = _); first | ((conv => lhs; arg 1; whnf); first | refine listK_cons ?_ | refine listK_nil ?_) | fail) | ((with_reducible show forceB _ _ = _); first | refine forceB_ok ?_ | fail) | ((with_reducible show forceN _ _ = _); first | refine forceN_mod ?_ | refine forceN_div ?_ | refine forceN_add ?_ | refine forceN_sub ?_ | refine forceN_suc ?_ | refine forceN_part ?_ | refine forceN_byte ?_ | refine forceN_ok ?_ | fail) | ((with_reducible show forceZ _ _ = _); first | refine forceZ_add ?_ | refine forceZ_mul (by (try simp only [maxK]); omega) ?_ | refine forceZ_sub ?_ | refine forceZ_ok ?_ | fail) | ((with_reducible show rowAt _ _ _ = _); first | refine rowAt_ok (byteRows_get (by (try simp only [maxK]); omega)) ?_ | (apply rowAt_ok; (focus assumption)) | fail) | ((with_reducible show Bool.rec (motive := fun _ => AnsT) _ _ _ = _); first | refine br_true (Nat.beq_refl _) ?_ | refine br_true (by assumption) ?_ | refine br_false (by assumption) ?_ | refine br_max (by (try simp only [maxK]); omega) ?_ | refine br_ble_t (by (try simp only [maxK]); omega) ?_ | refine br_ble_f (by (try simp only [maxK]); omega) ?_ | refine br_beq_f (by (try simp only [maxK]); omega) ?_ | refine br_true (by simp only [Bool.and_eq_true, Nat.ble_eq]; (try simp only []); omega) ?_ | (refine br_ble (fun h => ?_) (fun h => ?_) <;> (try simp only [] at h)) | (refine br_beq (fun h => ?_) (fun h => ?_) <;> (try simp only [] at h)) | refine br_split (fun h => ?_) (fun h => ?_) | fail) | ((with_reducible show (acc4 _ _).upd _ _ _ = _); first | refine acc4_upd_ok (by omega) ?_ | fail) | ((with_reducible show (acc4 _ _).get _ _ = _); first | refine acc4_get_same (by omega) ?_ | refine acc4_get_other (by omega) (by omega) (by omega) ?_ | refine acc4_get_ok (by omega) (by assumption) ?_ | fail) | refine opt3_split (fun h => ?_) (fun kind num tl h => ?_) | refine int_split (fun a h => ?_) (fun a h => ?_) | fail) | ((conv => lhs; whnf); first | rw [qNd] | refine nd_split (fun h => ?_) (fun h => ?_) | fail))
      all_goals (try (conv => lhs; whnf))
      all_goals first
      | (refine okIf_ok (frz_bool ?_)
         first
         | rw [w_leafN (by omega) (by omega)] at hr
         | rw [w_tagN (by omega) (by omega)] at hr
         | rw [w_bin0 (by omega)] at hr
         | rw [w_star0 (by omega)] at hr
         | rw [w_else (by omega)] at hr
         exact hr)
      | (first
         | rw [w_leaf (by omega) (by omega)] at hr
         | rw [w_tag (by omega) (by omega)] at hr
         refine hk _ _ _ _ (by omega) ⟨i + 1, [(i, false)], rfl, by omega, hr, by simp, ?_, by omega, by omega, .inr ⟨_, _, ?_, ?_, rfl, get4_same (by omega), rfl⟩, rfl, rfl, rfl, rfl, rfl⟩
         · repeat (refine get4_other (by omega) (by omega) (by omega) ?_)
           exact h0
         · omega
         · omega)
    · cases e5
      have hn2 : n ≤ i := by omega
      match st, hst, hr, hn, hob with
      | [], hst, hr, hn, hob =>
        have hn0 : n = 0 := hn
        have hpl := pcs_len []
        simp only [List.length_nil] at hpl
        (repeat' (first | ((conv => lhs; whnf); first | ((with_reducible show natZ _ _ _ _ = _); first | refine natZ_nat ?_ | refine natZ_add ?_ | refine natZ_eql_t (by first | assumption | omega) ?_ | refine natZ_eql_f (by first | assumption | omega) ?_ | refine natZ_eql (fun h => ?_) (fun h => ?_) | refine natZ_neq_t (by first | assumption | omega) ?_ | refine natZ_neq_f (by first | assumption | omega) ?_ | (refine natZ_neqS (fun h => ?_) (fun h => ?_) <;> (try subst h)) | refine natZ_lss_t (by first | assumption | omega) ?_ | refine natZ_lss_f (by first | assumption | omega) ?_ | refine natZ_lss (fun h => ?_) (fun h => ?_) | refine natZ_leq_t (by first | assumption | omega) ?_ | refine natZ_leq_f (by first | assumption | omega) ?_ | refine natZ_leq (fun h => ?_) (fun h => ?_) | refine natZ_gtr_t (by first | assumption | omega) ?_ | refine natZ_gtr_f (by first | assumption | omega) ?_ | refine natZ_gtr (fun h => ?_) (fun h => ?_) | refine natZ_geq_t (by first | assumption | omega) ?_ | refine natZ_geq_f (by first | assumption | omega) ?_ | refine natZ_geq (fun h => ?_) (fun h => ?_) | refine natZ_quo (b := 8) rfl (by omega) ?_ | refine natZ_quo (b := 16) rfl (by omega) ?_ | refine natZ_quo (b := 64) rfl (by omega) ?_ | fail) | ((with_reducible show valK _ _ = _); first | ((conv => lhs; arg 1; whnf); refine valK_ok ?_) | fail) | ((with_reducible show listK _ _ = _); first | ((conv => lhs; arg 1; whnf); first | refine listK_cons ?_ | refine listK_nil ?_) | fail) | ((with_reducible show forceB _ _ = _); first | refine forceB_ok ?_ | fail) | ((with_reducible show forceN _ _ = _); first | refine forceN_mod ?_ | refine forceN_div ?_ | refine forceN_add ?_ | refine forceN_sub ?_ | refine forceN_suc ?_ | refine forceN_part ?_ | refine forceN_byte ?_ | refine forceN_ok ?_ | fail) | ((with_reducible show forceZ _ _ = _); first | refine forceZ_add ?_ | refine forceZ_mul (by (try simp only [maxK]); omega) ?_ | refine forceZ_sub ?_ | refine forceZ_ok ?_ | fail) | ((with_reducible show rowAt _ _ _ = _); first | refine rowAt_ok (byteRows_get (by (try simp only [maxK]); omega)) ?_ | (apply rowAt_ok; (focus assumption)) | fail) | ((with_reducible show Bool.rec (motive := fun _ => AnsT) _ _ _ = _); first | refine br_true (Nat.beq_refl _) ?_ | refine br_true (by assumption) ?_ | refine br_false (by assumption) ?_ | refine br_max (by (try simp only [maxK]); omega) ?_ | refine br_ble_t (by (try simp only [maxK]); omega) ?_ | refine br_ble_f (by (try simp only [maxK]); omega) ?_ | refine br_beq_f (by (try simp only [maxK]); omega) ?_ | refine br_true (by simp only [Bool.and_eq_true, Nat.ble_eq]; (try simp only []); omega) ?_ | (refine br_ble (fun h => ?_) (fun h => ?_) <;> (try simp only [] at h)) | (refine br_beq (fun h => ?_) (fun h => ?_) <;> (try simp only [] at h)) | refine br_split (fun h => ?_) (fun h => ?_) | fail) | ((with_reducible show (acc4 _ _).upd _ _ _ = _); first | refine acc4_upd_ok (by omega) ?_ | fail) | ((with_reducible show (acc4 _ _).get _ _ = _); first | refine acc4_get_same (by omega) ?_ | refine acc4_get_other (by omega) (by omega) (by omega) ?_ | refine acc4_get_ok (by omega) (by assumption) ?_ | fail) | refine opt3_split (fun h => ?_) (fun kind num tl h => ?_) | refine int_split (fun a h => ?_) (fun a h => ?_) | fail) | ((conv => lhs; whnf); first | rw [qNd] | refine nd_split (fun h => ?_) (fun h => ?_) | fail)))
        all_goals (try (conv => lhs; whnf))
        all_goals first
        | (refine okIf_ok (frz_bool ?_)
           first
           | rw [w_leafN (by omega) (by omega)] at hr
           | rw [w_tagN (by omega) (by omega)] at hr
           | rw [w_else (by omega)] at hr
           | rw [w_bin0 (by omega)] at hr
           | rw [w_star0 (by omega)] at hr
           exact hr)
        | (rw [w_leaf (by omega) (by omega)] at hr
           refine hk _ _ _ _ (by omega) ⟨i + 1, _, rfl, by omega, hr, ?_, ?_, by omega, by omega, .inr ⟨_, _, ?_, ?_, ?_, (get4_same (by omega)).trans (congrArg (KOb.ls 2) (pcs_pop0 (x := (i, false)) hn)), rfl⟩, rfl, rfl, rfl, rfl, rfl⟩
           · simp only [List.length_cons, List.length_nil] at hst ⊢; omega
           · repeat (refine get4_other (by omega) (by omega) (by omega) ?_)
             exact h0
           · omega
           · omega
           · simp only [List.length_cons, List.length_nil] at hn ⊢; omega)
        | (rw [w_tag (by omega) (by omega)] at hr
           refine hk _ _ _ _ (by omega) ⟨i + 1, _, rfl, by omega, hr, ?_, ?_, by omega, by omega, .inr ⟨_, _, ?_, ?_, ?_, (get4_same (by omega)).trans (congrArg (KOb.ls 2) (pcs_pop0 (x := (i, false)) hn)), rfl⟩, rfl, rfl, rfl, rfl, rfl⟩
           · simp only [List.length_cons, List.length_nil] at hst ⊢; omega
           · repeat (refine get4_other (by omega) (by omega) (by omega) ?_)
             exact h0
           · omega
           · omega
           · simp only [List.length_cons, List.length_nil] at hn ⊢; omega)
        | (exfalso
           first
           | (have h7 : 140737488355328 < (n + 1) * 16 := h
              omega)
           | (have h7 : 140737488355328 < (n - 1 + 1) * 16 := h
              omega)
           | (have h7 : 140737488355328 < (n - 2 + 1) * 16 := h
              omega))
      | [p], hst, hr, hn, hob =>
        obtain ⟨p1, p2⟩ := p
        have hn1 : n = 1 := hn
        have hpl := pcs_len [(p1, p2)]
        simp only [List.length_cons, List.length_nil] at hpl
        have ht1 : (pcs [(p1, p2)])[n - 1]? = some [.int .i64 (.ofNat p1), .bool p2] := by rw [hn1]; exact pcs_top (p1, p2) []
        cases p2 <;>
        (repeat' (first | ((conv => lhs; whnf); first | ((with_reducible show natZ _ _ _ _ = _); first | refine natZ_nat ?_ | refine natZ_add ?_ | refine natZ_eql_t (by first | assumption | omega) ?_ | refine natZ_eql_f (by first | assumption | omega) ?_ | refine natZ_eql (fun h => ?_) (fun h => ?_) | refine natZ_neq_t (by first | assumption | omega) ?_ | refine natZ_neq_f (by first | assumption | omega) ?_ | (refine natZ_neqS (fun h => ?_) (fun h => ?_) <;> (try subst h)) | refine natZ_lss_t (by first | assumption | omega) ?_ | refine natZ_lss_f (by first | assumption | omega) ?_ | refine natZ_lss (fun h => ?_) (fun h => ?_) | refine natZ_leq_t (by first | assumption | omega) ?_ | refine natZ_leq_f (by first | assumption | omega) ?_ | refine natZ_leq (fun h => ?_) (fun h => ?_) | refine natZ_gtr_t (by first | assumption | omega) ?_ | refine natZ_gtr_f (by first | assumption | omega) ?_ | refine natZ_gtr (fun h => ?_) (fun h => ?_) | refine natZ_geq_t (by first | assumption | omega) ?_ | refine natZ_geq_f (by first | assumption | omega) ?_ | refine natZ_geq (fun h => ?_) (fun h => ?_) | refine natZ_quo (b := 8) rfl (by omega) ?_ | refine natZ_quo (b := 16) rfl (by omega) ?_ | refine natZ_quo (b := 64) rfl (by omega) ?_ | fail) | ((with_reducible show valK _ _ = _); first | ((conv => lhs; arg 1; whnf); refine valK_ok ?_) | fail) | ((with_reducible show listK _ _ = _); first | ((conv => lhs; arg 1; whnf); first | refine listK_cons ?_ | refine listK_nil ?_) | fail) | ((with_reducible show forceB _ _ = _); first | refine forceB_ok ?_ | fail) | ((with_reducible show forceN _ _ = _); first | refine forceN_mod ?_ | refine forceN_div ?_ | refine forceN_add ?_ | refine forceN_sub ?_ | refine forceN_suc ?_ | refine forceN_part ?_ | refine forceN_byte ?_ | refine forceN_ok ?_ | fail) | ((with_reducible show forceZ _ _ = _); first | refine forceZ_add ?_ | refine forceZ_mul (by (try simp only [maxK]); omega) ?_ | refine forceZ_sub ?_ | refine forceZ_ok ?_ | fail) | ((with_reducible show rowAt _ _ _ = _); first | refine rowAt_ok (byteRows_get (by (try simp only [maxK]); omega)) ?_ | (apply rowAt_ok; (focus assumption)) | fail) | ((with_reducible show Bool.rec (motive := fun _ => AnsT) _ _ _ = _); first | refine br_true (Nat.beq_refl _) ?_ | refine br_true (by assumption) ?_ | refine br_false (by assumption) ?_ | refine br_max (by (try simp only [maxK]); omega) ?_ | refine br_ble_t (by (try simp only [maxK]); omega) ?_ | refine br_ble_f (by (try simp only [maxK]); omega) ?_ | refine br_beq_f (by (try simp only [maxK]); omega) ?_ | refine br_true (by simp only [Bool.and_eq_true, Nat.ble_eq]; (try simp only []); omega) ?_ | (refine br_ble (fun h => ?_) (fun h => ?_) <;> (try simp only [] at h)) | (refine br_beq (fun h => ?_) (fun h => ?_) <;> (try simp only [] at h)) | refine br_split (fun h => ?_) (fun h => ?_) | fail) | ((with_reducible show (acc4 _ _).upd _ _ _ = _); first | refine acc4_upd_ok (by omega) ?_ | fail) | ((with_reducible show (acc4 _ _).get _ _ = _); first | refine acc4_get_same (by omega) ?_ | refine acc4_get_other (by omega) (by omega) (by omega) ?_ | refine acc4_get_ok (by omega) (by assumption) ?_ | fail) | refine opt3_split (fun h => ?_) (fun kind num tl h => ?_) | refine int_split (fun a h => ?_) (fun a h => ?_) | fail) | ((conv => lhs; whnf); first | rw [qNd] | refine nd_split (fun h => ?_) (fun h => ?_) | fail)))
        all_goals (try (conv => lhs; whnf))
        all_goals first
        | (refine okIf_ok (frz_bool ?_)
           first
           | rw [w_leafN (by omega) (by omega)] at hr
           | rw [w_tagN (by omega) (by omega)] at hr
           | rw [w_else (by omega)] at hr
           | rw [w_bin1 (by omega)] at hr
           | rw [w_starN (by omega) (by first | (intro g; have g2 := g.2; simp only [] at g2; omega) | (intro g; cases g.1))] at hr
           exact hr)
        | (rw [w_leaf (by omega) (by omega)] at hr
           refine hk _ _ _ _ (by omega) ⟨i + 1, _, rfl, by omega, hr, ?_, ?_, by omega, by omega, .inr ⟨_, _, ?_, ?_, ?_, (get4_same (by omega)).trans (congrArg (KOb.ls 2) (pcs_pop0 (x := (i, false)) hn)), rfl⟩, rfl, rfl, rfl, rfl, rfl⟩
           · simp only [List.length_cons, List.length_nil] at hst ⊢; omega
           · repeat (refine get4_other (by omega) (by omega) (by omega) ?_)
             exact h0
           · omega
           · omega
           · simp only [List.length_cons, List.length_nil] at hn ⊢; omega)
        | (rw [w_tag (by omega) (by omega)] at hr
           refine hk _ _ _ _ (by omega) ⟨i + 1, _, rfl, by omega, hr, ?_, ?_, by omega, by omega, .inr ⟨_, _, ?_, ?_, ?_, (get4_same (by omega)).trans (congrArg (KOb.ls 2) (pcs_pop0 (x := (i, false)) hn)), rfl⟩, rfl, rfl, rfl, rfl, rfl⟩
           · simp only [List.length_cons, List.length_nil] at hst ⊢; omega
           · repeat (refine get4_other (by omega) (by omega) (by omega) ?_)
             exact h0
           · omega
           · omega
           · simp only [List.length_cons, List.length_nil] at hn ⊢; omega)
        | (rw [w_star (by omega) rfl (by first | omega | (simp only []; omega))] at hr
           refine hk _ _ _ _ (by omega) ⟨i + 1, _, rfl, by omega, hr, ?_, ?_, by omega, by omega, .inr ⟨_, _, ?_, ?_, ?_, (get4_same (by omega)).trans (congrArg (KOb.ls 2) (pcs_pop1 (x := (i, true)) hn)), rfl⟩, rfl, rfl, rfl, rfl, rfl⟩
           · simp only [List.length_cons, List.length_nil] at hst ⊢; omega
           · repeat (refine get4_other (by omega) (by omega) (by omega) ?_)
             exact h0
           · omega
           · omega
           · simp only [List.length_cons, List.length_nil] at hn ⊢; omega)
        | (exfalso
           first
           | (have h7 : 140737488355328 < (n + 1) * 16 := h
              omega)
           | (have h7 : 140737488355328 < (n - 1 + 1) * 16 := h
              omega)
           | (have h7 : 140737488355328 < (n - 2 + 1) * 16 := h
              omega))
      | p :: q :: st, hst, hr, hn, hob =>
        obtain ⟨p1, p2⟩ := p
        obtain ⟨q1, q2⟩ := q
        have hn1 : n = st.length + 2 := hn
        have hpl := pcs_len ((p1, p2) :: (q1, q2) :: st)
        simp only [List.length_cons] at hpl
        have ht1 : (pcs ((p1, p2) :: (q1, q2) :: st))[n - 1]? = some [.int .i64 (.ofNat p1), .bool p2] := by rw [hn1, show st.length + 2 - 1 = ((q1, q2) :: st).length from rfl]; exact pcs_top (p1, p2) _
        have ht2 : (pcs ((p1, p2) :: (q1, q2) :: st))[n - 2]? = some [.int .i64 (.ofNat q1), .bool q2] := by rw [hn1, Nat.add_sub_cancel]; exact pcs_top2 (p1, p2) (q1, q2) st
        cases p2 <;> cases q2 <;>
        (repeat' (first | ((conv => lhs; whnf); first | ((with_reducible show natZ _ _ _ _ = _); first | refine natZ_nat ?_ | refine natZ_add ?_ | refine natZ_eql_t (by first | assumption | omega) ?_ | refine natZ_eql_f (by first | assumption | omega) ?_ | refine natZ_eql (fun h => ?_) (fun h => ?_) | refine natZ_neq_t (by first | assumption | omega) ?_ | refine natZ_neq_f (by first | assumption | omega) ?_ | (refine natZ_neqS (fun h => ?_) (fun h => ?_) <;> (try subst h)) | refine natZ_lss_t (by first | assumption | omega) ?_ | refine natZ_lss_f (by first | assumption | omega) ?_ | refine natZ_lss (fun h => ?_) (fun h => ?_) | refine natZ_leq_t (by first | assumption | omega) ?_ | refine natZ_leq_f (by first | assumption | omega) ?_ | refine natZ_leq (fun h => ?_) (fun h => ?_) | refine natZ_gtr_t (by first | assumption | omega) ?_ | refine natZ_gtr_f (by first | assumption | omega) ?_ | refine natZ_gtr (fun h => ?_) (fun h => ?_) | refine natZ_geq_t (by first | assumption | omega) ?_ | refine natZ_geq_f (by first | assumption | omega) ?_ | refine natZ_geq (fun h => ?_) (fun h => ?_) | refine natZ_quo (b := 8) rfl (by omega) ?_ | refine natZ_quo (b := 16) rfl (by omega) ?_ | refine natZ_quo (b := 64) rfl (by omega) ?_ | fail) | ((with_reducible show valK _ _ = _); first | ((conv => lhs; arg 1; whnf); refine valK_ok ?_) | fail) | ((with_reducible show listK _ _ = _); first | ((conv => lhs; arg 1; whnf); first | refine listK_cons ?_ | refine listK_nil ?_) | fail) | ((with_reducible show forceB _ _ = _); first | refine forceB_ok ?_ | fail) | ((with_reducible show forceN _ _ = _); first | refine forceN_mod ?_ | refine forceN_div ?_ | refine forceN_add ?_ | refine forceN_sub ?_ | refine forceN_suc ?_ | refine forceN_part ?_ | refine forceN_byte ?_ | refine forceN_ok ?_ | fail) | ((with_reducible show forceZ _ _ = _); first | refine forceZ_add ?_ | refine forceZ_mul (by (try simp only [maxK]); omega) ?_ | refine forceZ_sub ?_ | refine forceZ_ok ?_ | fail) | ((with_reducible show rowAt _ _ _ = _); first | refine rowAt_ok (byteRows_get (by (try simp only [maxK]); omega)) ?_ | (apply rowAt_ok; (focus assumption)) | fail) | ((with_reducible show Bool.rec (motive := fun _ => AnsT) _ _ _ = _); first | refine br_true (Nat.beq_refl _) ?_ | refine br_true (by assumption) ?_ | refine br_false (by assumption) ?_ | refine br_max (by (try simp only [maxK]); omega) ?_ | refine br_ble_t (by (try simp only [maxK]); omega) ?_ | refine br_ble_f (by (try simp only [maxK]); omega) ?_ | refine br_beq_f (by (try simp only [maxK]); omega) ?_ | refine br_true (by simp only [Bool.and_eq_true, Nat.ble_eq]; (try simp only []); omega) ?_ | (refine br_ble (fun h => ?_) (fun h => ?_) <;> (try simp only [] at h)) | (refine br_beq (fun h => ?_) (fun h => ?_) <;> (try simp only [] at h)) | refine br_split (fun h => ?_) (fun h => ?_) | fail) | ((with_reducible show (acc4 _ _).upd _ _ _ = _); first | refine acc4_upd_ok (by omega) ?_ | fail) | ((with_reducible show (acc4 _ _).get _ _ = _); first | refine acc4_get_same (by omega) ?_ | refine acc4_get_other (by omega) (by omega) (by omega) ?_ | refine acc4_get_ok (by omega) (by assumption) ?_ | fail) | refine opt3_split (fun h => ?_) (fun kind num tl h => ?_) | refine int_split (fun a h => ?_) (fun a h => ?_) | fail) | ((conv => lhs; whnf); first | rw [qNd] | refine nd_split (fun h => ?_) (fun h => ?_) | fail)))
        all_goals (try (conv => lhs; whnf))
        all_goals first
        | (refine okIf_ok (frz_bool ?_)
           first
           | rw [w_leafN (by omega) (by omega)] at hr
           | rw [w_tagN (by omega) (by omega)] at hr
           | rw [w_else (by omega)] at hr
           | rw [w_binN (by omega) (by first | omega | (simp only []; omega))] at hr
           | rw [w_starN (by omega) (by first | (intro g; have g2 := g.2; simp only [] at g2; omega) | (intro g; cases g.1))] at hr
           exact hr)
        | (rw [w_leaf (by omega) (by omega)] at hr
           refine hk _ _ _ _ (by omega) ⟨i + 1, _, rfl, by omega, hr, ?_, ?_, by omega, by omega, .inr ⟨_, _, ?_, ?_, ?_, (get4_same (by omega)).trans (congrArg (KOb.ls 2) (pcs_pop0 (x := (i, false)) hn)), rfl⟩, rfl, rfl, rfl, rfl, rfl⟩
           · simp only [List.length_cons, List.length_nil] at hst ⊢; omega
           · repeat (refine get4_other (by omega) (by omega) (by omega) ?_)
             exact h0
           · omega
           · omega
           · simp only [List.length_cons, List.length_nil] at hn ⊢; omega)
        | (rw [w_tag (by omega) (by omega)] at hr
           refine hk _ _ _ _ (by omega) ⟨i + 1, _, rfl, by omega, hr, ?_, ?_, by omega, by omega, .inr ⟨_, _, ?_, ?_, ?_, (get4_same (by omega)).trans (congrArg (KOb.ls 2) (pcs_pop0 (x := (i, false)) hn)), rfl⟩, rfl, rfl, rfl, rfl, rfl⟩
           · simp only [List.length_cons, List.length_nil] at hst ⊢; omega
           · repeat (refine get4_other (by omega) (by omega) (by omega) ?_)
             exact h0
           · omega
           · omega
           · simp only [List.length_cons, List.length_nil] at hn ⊢; omega)
        | (rw [w_star (by omega) rfl (by first | omega | (simp only []; omega))] at hr
           refine hk _ _ _ _ (by omega) ⟨i + 1, _, rfl, by omega, hr, ?_, ?_, by omega, by omega, .inr ⟨_, _, ?_, ?_, ?_, (get4_same (by omega)).trans (congrArg (KOb.ls 2) (pcs_pop1 (x := (i, true)) hn)), rfl⟩, rfl, rfl, rfl, rfl, rfl⟩
           · simp only [List.length_cons, List.length_nil] at hst ⊢; omega
           · repeat (refine get4_other (by omega) (by omega) (by omega) ?_)
             exact h0
           · omega
           · omega
           · simp only [List.length_cons, List.length_nil] at hn ⊢; omega)
        | (rw [w_bin (by omega) (by first | omega | (simp only []; omega))] at hr
           refine hk _ _ _ _ (by omega) ⟨i + 1, _, rfl, by omega, hr, ?_, ?_, by omega, by omega, .inr ⟨_, _, ?_, ?_, ?_, (get4_same (by omega)).trans (congrArg (KOb.ls 2) (pcs_pop2 (x := (i, false)) hn)), rfl⟩, rfl, rfl, rfl, rfl, rfl⟩
           · simp only [List.length_cons, List.length_nil] at hst ⊢; omega
           · repeat (refine get4_other (by omega) (by omega) (by omega) ?_)
             exact h0
           · omega
           · omega
           · simp only [List.length_cons, List.length_nil] at hn ⊢; omega)
        | (rw [w_bin (by omega) (by first | omega | (simp only []; omega))] at hr
           refine hk _ _ _ _ (by omega) ⟨i + 1, _, rfl, by omega, hr, ?_, ?_, by omega, by omega, .inr ⟨_, _, ?_, ?_, ?_, (get4_same (by omega)).trans (congrArg (KOb.ls 2) (pcs_pop2 (x := (i, true)) hn)), rfl⟩, rfl, rfl, rfl, rfl, rfl⟩
           · simp only [List.length_cons, List.length_nil] at hst ⊢; omega
           · repeat (refine get4_other (by omega) (by omega) (by omega) ?_)
             exact h0
           · omega
           · omega
           · simp only [List.length_cons, List.length_nil] at hn ⊢; omega)
        | (exfalso
           first
           | (have h7 : 140737488355328 < (n + 1) * 16 := h
              omega)
           | (have h7 : 140737488355328 < (n - 1 + 1) * 16 := h
              omega)
           | (have h7 : 140737488355328 < (n - 2 + 1) * 16 := h
              omega))
  · rw [wfold_end hge] at hr
    rcases hacc with ⟨rfl, e5⟩ | ⟨j, n, hj0, hj, hn, hob, e5⟩
    · cases e5
      (repeat' ((conv => lhs; whnf); first | ((with_reducible show natZ _ _ _ _ = _); first | refine natZ_nat ?_ | refine natZ_add ?_ | refine natZ_eql_t (by first | assumption | omega) ?_ | refine natZ_eql_f (by first | assumption | omega) ?_ | refine natZ_eql (fun h => ?_) (fun h => ?_) | refine natZ_neq_t (by first | assumption | omega) ?_ | refine natZ_neq_f (by first | assumption | omega) ?_ | (refine natZ_neqS (fun h => ?_) (fun h => ?_) <;> (try subst h)) | refine natZ_lss_t (by first | assumption | omega) ?_ | refine natZ_lss_f (by first | assumption | omega) ?_ | refine natZ_lss (fun h => ?_) (fun h => ?_) | refine natZ_leq_t (by first | assumption | omega) ?_ | refine natZ_leq_f (by first | assumption | omega) ?_ | refine natZ_leq (fun h => ?_) (fun h => ?_) | refine natZ_gtr_t (by first | assumption | omega) ?_ | refine natZ_gtr_f (by first | assumption | omega) ?_ | refine natZ_gtr (fun h => ?_) (fun h => ?_) | refine natZ_geq_t (by first | assumption | omega) ?_ | refine natZ_geq_f (by first | assumption | omega) ?_ | refine natZ_geq (fun h => ?_) (fun h => ?_) | refine natZ_quo (b := 8) rfl (by omega) ?_ | refine natZ_quo (b := 16) rfl (by omega) ?_ | refine natZ_quo (b := 64) rfl (by omega) ?_ | fail) | ((with_reducible show valK _ _ = _); first | ((conv => lhs; arg 1; whnf); refine valK_ok ?_) | fail) | ((with_reducible show listK _ _ = _); first | ((conv => lhs; arg 1; whnf); first | refine listK_cons ?_ | refine listK_nil ?_) | fail) | ((with_reducible show forceB _ _ = _); first | refine forceB_ok ?_ | fail) | ((with_reducible show forceN _ _ = _); first | refine forceN_mod ?_ | refine forceN_div ?_ | refine forceN_add ?_ | refine forceN_sub ?_ | refine forceN_suc ?_ | refine forceN_part ?_ | refine forceN_byte ?_ | refine forceN_ok ?_ | fail) | ((with_reducible show forceZ _ _ = _); first | refine forceZ_add ?_ | refine forceZ_mul (by (try simp only [maxK]); omega) ?_ | refine forceZ_sub ?_ | refine forceZ_ok ?_ | fail) | ((with_reducible show rowAt _ _ _ = _); first | refine rowAt_ok (byteRows_get (by (try simp only [maxK]); omega)) ?_ | (apply rowAt_ok; (focus assumption)) | fail) | ((with_reducible show Bool.rec (motive := fun _ => AnsT) _ _ _ = _); first | refine br_true (Nat.beq_refl _) ?_ | refine br_true (by assumption) ?_ | refine br_false (by assumption) ?_ | refine br_max (by (try simp only [maxK]); omega) ?_ | refine br_ble_t (by (try simp only [maxK]); omega) ?_ | refine br_ble_f (by (try simp only [maxK]); omega) ?_ | refine br_beq_f (by (try simp only [maxK]); omega) ?_ | refine br_true (by simp only [Bool.and_eq_true, Nat.ble_eq]; (try simp only []); omega) ?_ | (refine br_ble (fun h => ?_) (fun h => ?_) <;> (try simp only [] at h)) | (refine br_beq (fun h => ?_) (fun h => ?_) <;> (try simp only [] at h)) | refine br_split (fun h => ?_) (fun h => ?_) | fail) | ((with_reducible show (acc4 _ _).upd _ _ _ = _); first | refine acc4_upd_ok (by omega) ?_ | fail) | ((with_reducible show (acc4 _ _).get _ _ = _); first | refine acc4_get_same (by omega) ?_ | refine acc4_get_other (by omega) (by omega) (by omega) ?_ | refine acc4_get_ok (by omega) (by assumption) ?_ | fail) | refine opt3_split (fun h => ?_) (fun kind num tl h => ?_) | refine int_split (fun a h => ?_) (fun a h => ?_) | fail))
      all_goals (try (conv => lhs; whnf))
      all_goals exact okIf_ok (frz_bool hr)
    · cases e5
      (repeat' ((conv => lhs; whnf); first | ((with_reducible show natZ _ _ _ _ = _); first | refine natZ_nat ?_ | refine natZ_add ?_ | refine natZ_eql_t (by first | assumption | omega) ?_ | refine natZ_eql_f (by first | assumption | omega) ?_ | refine natZ_eql (fun h => ?_) (fun h => ?_) | refine natZ_neq_t (by first | assumption | omega) ?_ | refine natZ_neq_f (by first | assumption | omega) ?_ | (refine natZ_neqS (fun h => ?_) (fun h => ?_) <;> (try subst h)) | refine natZ_lss_t (by first | assumption | omega) ?_ | refine natZ_lss_f (by first | assumption | omega) ?_ | refine natZ_lss (fun h => ?_) (fun h => ?_) | refine natZ_leq_t (by first | assumption | omega) ?_ | refine natZ_leq_f (by first | assumption | omega) ?_ | refine natZ_leq (fun h => ?_) (fun h => ?_) | refine natZ_gtr_t (by first | assumption | omega) ?_ | refine natZ_gtr_f (by first | assumption | omega) ?_ | refine natZ_gtr (fun h => ?_) (fun h => ?_) | refine natZ_geq_t (by first | assumption | omega) ?_ | refine natZ_geq_f (by first | assumption | omega) ?_ | refine natZ_geq (fun h => ?_) (fun h => ?_) | refine natZ_quo (b := 8) rfl (by omega) ?_ | refine natZ_quo (b := 16) rfl (by omega) ?_ | refine natZ_quo (b := 64) rfl (by omega) ?_ | fail) | ((with_reducible show valK _ _ = _); first | ((conv => lhs; arg 1; whnf); refine valK_ok ?_) | fail) | ((with_reducible show listK _ _ = _); first | ((conv => lhs; arg 1; whnf); first | refine listK_cons ?_ | refine listK_nil ?_) | fail) | ((with_reducible show forceB _ _ = _); first | refine forceB_ok ?_ | fail) | ((with_reducible show forceN _ _ = _); first | refine forceN_mod ?_ | refine forceN_div ?_ | refine forceN_add ?_ | refine forceN_sub ?_ | refine forceN_suc ?_ | refine forceN_part ?_ | refine forceN_byte ?_ | refine forceN_ok ?_ | fail) | ((with_reducible show forceZ _ _ = _); first | refine forceZ_add ?_ | refine forceZ_mul (by (try simp only [maxK]); omega) ?_ | refine forceZ_sub ?_ | refine forceZ_ok ?_ | fail) | ((with_reducible show rowAt _ _ _ = _); first | refine rowAt_ok (byteRows_get (by (try simp only [maxK]); omega)) ?_ | (apply rowAt_ok; (focus assumption)) | fail) | ((with_reducible show Bool.rec (motive := fun _ => AnsT) _ _ _ = _); first | refine br_true (Nat.beq_refl _) ?_ | refine br_true (by assumption) ?_ | refine br_false (by assumption) ?_ | refine br_max (by (try simp only [maxK]); omega) ?_ | refine br_ble_t (by (try simp only [maxK]); omega) ?_ | refine br_ble_f (by (try simp only [maxK]); omega) ?_ | refine br_beq_f (by (try simp only [maxK]); omega) ?_ | refine br_true (by simp only [Bool.and_eq_true, Nat.ble_eq]; (try simp only []); omega) ?_ | (refine br_ble (fun h => ?_) (fun h => ?_) <;> (try simp only [] at h)) | (refine br_beq (fun h => ?_) (fun h => ?_) <;> (try simp only [] at h)) | refine br_split (fun h => ?_) (fun h => ?_) | fail) | ((with_reducible show (acc4 _ _).upd _ _ _ = _); first | refine acc4_upd_ok (by omega) ?_ | fail) | ((with_reducible show (acc4 _ _).get _ _ = _); first | refine acc4_get_same (by omega) ?_ | refine acc4_get_other (by omega) (by omega) (by omega) ?_ | refine acc4_get_ok (by omega) (by assumption) ?_ | fail) | refine opt3_split (fun h => ?_) (fun kind num tl h => ?_) | refine int_split (fun a h => ?_) (fun a h => ?_) | fail))
      all_goals (try (conv => lhs; whnf))
      · refine okIf_ok (frz_bool ?_)
        rw [← hr]
        exact (decide_eq_true (by omega)).symm
      · refine okIf_ok (frz_bool ?_)
        rw [← hr]
        exact (decide_eq_false (by omega)).symm

end Go.Proofs.YtibmbbogjkecoaaDoor.M

/- Parts that are whole, by place and star, as rows. -/
namespace Go.Proofs.YtibmbbogjkecoaaDoor.M
open Go
set_option linter.unusedSimpArgs false
set_option linter.unusedVariables false
variable {ρ : Nat → Value}

def opRow (p : Nat × Bool) : List V := [.int .i64 (.ofNat p.1)]
def bRow (b : Bool) : List V := [.bool b]
/-- The places of the parts that are whole, the last one last. -/
def ops (st : List (Nat × Bool)) : List (List V) := st.reverse.map opRow
theorem ops_len (st : List (Nat × Bool)) : (ops st).length = st.length := by simp [ops]
theorem ops_push (x : Nat × Bool) (st : List (Nat × Bool)) : ops (x :: st) = ops st ++ [opRow x] := by simp [ops]
theorem ops_take1 (x : Nat × Bool) (st : List (Nat × Bool)) : (ops (x :: st)).take st.length = ops st := by rw [ops_push, ← ops_len st, List.take_left]
theorem ops_take2 (x y : Nat × Bool) (st : List (Nat × Bool)) : (ops (x :: y :: st)).take st.length = ops st := by
  rw [ops_push, ops_push, List.append_assoc, ← ops_len st, List.take_left]
theorem ops_pop0 {x : Nat × Bool} {st : List (Nat × Bool)} {n : Nat} (h : n = st.length) : (ops st).take (n - 0) ++ [opRow x] = ops (x :: st) := by rw [Nat.sub_zero, ops_push, h, ← ops_len st, List.take_length]
theorem ops_pop1 {p x : Nat × Bool} {st : List (Nat × Bool)} {n : Nat} (h : n = (p :: st).length) : (ops (p :: st)).take (n - 1) ++ [opRow x] = ops (x :: st) := by
  rw [h, List.length_cons, Nat.add_sub_cancel, ops_take1, ops_push]
theorem ops_pop2 {p q x : Nat × Bool} {st : List (Nat × Bool)} {n : Nat} (h : n = (p :: q :: st).length) : (ops (p :: q :: st)).take (n - 2) ++ [opRow x] = ops (x :: st) := by
  rw [h, List.length_cons, List.length_cons, show st.length + 1 + 1 - 2 = st.length by omega, ops_take2, ops_push]
theorem ops_top (x : Nat × Bool) (st : List (Nat × Bool)) : (ops (x :: st))[st.length]? = some [.int .i64 (.ofNat x.1)] := by
  rw [ops_push, ← ops_len st, List.getElem?_append_right (Nat.le_refl _), Nat.sub_self]
  rfl
theorem ops_top2 (x y : Nat × Bool) (st : List (Nat × Bool)) : (ops (x :: y :: st))[st.length]? = some [.int .i64 (.ofNat y.1)] := by
  rw [ops_push, List.getElem?_append_left (by rw [ops_len]; simp)]
  exact ops_top y st
theorem bRow_set {ss : List Bool} {i : Nat} {b : Bool} : (ss.map bRow).set i [.bool b] = (ss.set i b).map bRow := by rw [List.map_set]; rfl
theorem bRow_at {ss : List Bool} {i : Nat} {b : Bool} (h : ss[i]? = some b) : (ss.map bRow)[i]? = some [.bool b] := by rw [List.getElem?_map, h]; rfl

/-- The stars by place: those of the parts that are whole; none from i on. -/
def okS (st : List (Nat × Bool)) (ss : List Bool) (i : Nat) : Prop := (∀ e ∈ st, e.1 < i ∧ ss[e.1]? = some e.2) ∧ ∀ j, i ≤ j → j < ss.length → ss[j]? = some false
theorem okS_tail {p : Nat × Bool} {st : List (Nat × Bool)} {ss : List Bool} {i : Nat} (h : okS (p :: st) ss i) : okS st ss i := ⟨fun e he => h.1 e (List.mem_cons_of_mem _ he), h.2⟩
theorem okS_leaf {st : List (Nat × Bool)} {ss : List Bool} {i : Nat} (h : okS st ss i) (hi : i < ss.length) : okS ((i, false) :: st) ss (i + 1) :=
  ⟨fun e he => by
    rcases List.mem_cons.mp he with rfl | he
    · exact ⟨Nat.lt_succ_self _, h.2 i (Nat.le_refl _) hi⟩
    · exact ⟨Nat.lt_succ_of_lt (h.1 e he).1, (h.1 e he).2⟩, fun j hj hl => h.2 j (by omega) hl⟩
theorem okS_put {st : List (Nat × Bool)} {ss : List Bool} {i : Nat} {b : Bool} (h : okS st ss i) (hi : i < ss.length) : okS ((i, b) :: st) (ss.set i b) (i + 1) :=
  ⟨fun e he => by
    rcases List.mem_cons.mp he with rfl | he
    · exact ⟨Nat.lt_succ_self _, by simp [hi]⟩
    · have := h.1 e he
      refine ⟨Nat.lt_succ_of_lt this.1, ?_⟩
      rw [List.getElem?_set_ne (by omega)]
      exact this.2, fun j hj hl => by
    rw [List.getElem?_set_ne (by omega)]
    exact h.2 j (by omega) (by simpa using hl)⟩

theorem okS_nil (n : Nat) : okS [] (List.replicate n false) 0 := ⟨fun e he => (by cases he), fun j _ hj => (by rw [List.getElem?_replicate, if_pos (by simpa using hj)])⟩

end Go.Proofs.YtibmbbogjkecoaaDoor.M
