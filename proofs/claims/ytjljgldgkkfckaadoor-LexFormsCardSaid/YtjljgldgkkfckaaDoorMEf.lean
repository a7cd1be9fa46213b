/- Functions, their ends, as the kernel runs them. -/
import Derived.Test.YtjljgldgkkfckaaDoorMEv
namespace Go.Proofs.YtjljgldgkkfckaaDoor.M
open Go Go.RowKit
set_option linter.unusedSimpArgs false
set_option linter.unusedVariables false

variable {ρ : Nat → Value} {P : Program}

/-- What is to be checked of all functions, once. -/
def GOK' (P : Program) (G : Gl) : Prop := ∀ (f : FuncId) (fn : Func) (c : Code), P.funcs[f]? = some fn → fn.body = some c → okC fn.ntmps (G.ks f) (G.pl f) c = true

def okF (P : Program) (G : Gl) (f : FuncId) : Bool := match P.funcs[f]? with
  | some fn => match fn.body with
    | some c => okC fn.ntmps (G.ks f) (G.pl f) c
    | none => true
  | none => true

theorem gok_of {G : Gl} (h : (List.range P.funcs.size).all (okF P G) = true) : GOK' P G := by
  intro f fn c hf hb
  rw [List.all_eq_true] at h
  have := h f (List.mem_range.mpr (getElem?_lt hf))
  unfold okF at this
  rw [hf] at this
  simp only [hb] at this
  exact this

/-! ### Deferred closures -/

structure Dc where
  run : CallT → List V → List PC → Option V → Hp → Nat → (Bool → Hp → Nat → Ans) → Ans

noncomputable def someB (u : Option V) : Bool := Option.rec false (fun _ => true) u
noncomputable def dEnd (k : Hp → Nat → Ans) : K3 := fun tm hp nx => (acc2 V 255).get tm fun v => v.onDefs (k hp nx) (fun _ => .err 97)

noncomputable def dcl (P : Program) (G : Gl) (f : FuncId) : Dc := match P.funcs[f]? with
  | some fn => match fn.body with
    | some (.seq (.region id ops false) rest) => match ops.toList, fn.results.toList, G.ks f with
      | [o], [], [] => match o.op, o.guard, o.dst with
        | .call c, none, some d => match c.callee, c.args.toList, c.argTypes.toList, Nat.ble (Nat.succ d) fn.ntmps with
          | .builtin .recover, [], [], true => ⟨fun call caps forb u hp nx k => argsK caps 0 tm0 fun tm => (updD (some d)).run tm (Option.rec (.sc .nilIface) (fun q => q) u) fun tm =>
              (comp P (G.pl f) rest).run ⟨call, forb, fun _ _ _ _ => .err 98, dEnd (k (someB u)), fun _ _ _ _ => .err 98, G.lm⟩ (dEnd (k (someB u))) tm hp nx⟩
          | _, _, _, _ => ⟨fun _ _ _ _ _ _ _ => .err 99⟩
        | _, _, _ => ⟨fun _ _ _ _ _ _ _ => .err 99⟩
      | _, _, _ => ⟨fun _ _ _ _ _ _ _ => .err 99⟩
    | _ => ⟨fun _ _ _ _ _ _ _ => .err 99⟩
  | none => ⟨fun _ _ _ _ _ _ _ => .err 99⟩

theorem QCallsD.mono {f : FuncId} {args : List V} {objs : Objs} {next : Nat} {forb : CellP} {u : Option V} {R R' : Bool → Objs → Nat → Prop} (h : QCallsD ρ P f args objs next forb u R) (hr : ∀ b O n, R b O n → R' b O n) : QCallsD ρ P f args objs next forb u R' :=
  fun w A T vals um ux h1 h2 h3 h4 h5 => (h w A T vals um ux h1 h2 h3 h4 h5).mono fun e um' w' ⟨y, g1, rc, O, n, T', g2, g3⟩ => ⟨y, g1, rc, O, n, T', hr _ _ _ g2, g3⟩

theorem dEnd_inv {k : Hp → Nat → Ans} {fr : Fr} {σ : St} (h : NK fr (dEnd k) σ) : σ.defs = [] ∧ ∃ hp, σ.objs = absO hp ∧ k hp σ.next = .ok := by
  obtain ⟨tm, hp, nx, rfl, h⟩ := h
  obtain ⟨_, h⟩ := acc2_get h
  rcases V.onDefs_inv h with ⟨l, _, h⟩ | ⟨h1, h⟩
  · exact Ans.no h
  · refine ⟨?_, hp, rfl, h⟩
    show absD tm = []
    unfold absD
    split
    · rename_i l hl; exact (h1 l hl).elim
    · rfl

theorem dcl_sound (hm : P.follows .mixedOrders = true) {G : Gl} (hG : GOK' P G) {f : FuncId} {call : CallT} (hc : CallOK ρ P call) {caps : List V} {forb : List PC} {u : Option V} {hp : Hp} {nx : Nat} {k : Bool → Hp → Nat → Ans}
    (h : (dcl P G f).run call caps forb u hp nx k = .ok) : QCallsD ρ P f caps (absO hp) nx (inL forb) u (fun rc O n => ∃ hp', O = absO hp' ∧ k rc hp' n = .ok) := by
  unfold dcl at h
  split at h
  · rename_i fn hfn
    split at h
    · rename_i id ops rest hb
      split at h
      · rename_i o ho hres hks
        split at h
        · rename_i c d hop hg hdst
          split at h
          · rename_i hcal hargs hats hd
            have hok := hG f fn _ hfn hb
            have hok : (ops.toList.all (dstB fn.ntmps) && okC fn.ntmps (G.ks f) (G.pl f) rest) = true := hok
            simp only [Bool.and_eq_true] at hok
            obtain ⟨tm1, h, h1, h2⟩ := argsK_inv h
            obtain ⟨tm2, h, h3⟩ := updD_inv h
            have hd : d < fn.ntmps := Nat.le_of_ble_eq_true hd
            have hop' : o.op = .call { callee := .builtin .recover, args := #[], argTypes := #[] } := by
              rw [hop]
              obtain ⟨c1, c2, c3⟩ := c
              simp only at hcal hargs hats
              rw [hcal, arr_of hargs, arr_of hats]
            have hops : ops = #[o] := arr_of ho
            rw [hops] at hb
            refine (qcallsD_body (R := fun rc O n => ∃ hp', O = absO hp' ∧ k rc hp' n = .ok) hfn hb hop' hg hdst (Nat.lt_of_lt_of_le hd (by omega)) (arr_of hres) ?_)
            have hn : fn.ntmps ≤ (⟨caps.length + (fn.ntmps - caps.length), forb, []⟩ : Fr).n := by show fn.ntmps ≤ caps.length + (fn.ntmps - caps.length); omega
            rw [hks] at hok
            have hq := comp_sound (ρ := ρ) hm (fr := ⟨caps.length + (fn.ntmps - caps.length), forb, []⟩) hn rest _ _ tm2 hp nx hok.2 rfl hc h
            rw [← h3] at hq
            have eu : (Option.rec (.sc .nilIface) (fun q => q) u : V) = recV u := by cases u <;> rfl
            have es : someB u = u.isSome := by cases u <;> rfl
            rw [eu] at hq
            have hq2 := hq.mono (K' := bodyKD (fun O n => ∃ hp', O = absO hp' ∧ k u.isSome hp' n = .ok)) (fun e σ he => by
              rw [es] at he
              cases e with
              | normal => exact dEnd_inv he
              | ret => exact dEnd_inv he
              | exit id => obtain ⟨_, _, _, _, h⟩ := he; exact Ans.no h
              | panic v => obtain ⟨_, _, _, _, h⟩ := he; exact Ans.no h)
            have e : ((initSt fn caps (absO hp) nx (inL forb) fun _ => false).put (some d) (recV u)) = { (absS ⟨caps.length + (fn.ntmps - caps.length), forb, []⟩ tm1 hp nx).put (some d) (recV u) with tmps := ((initSt fn caps (absO hp) nx (inL forb) fun _ => false).put (some d) (recV u)).tmps } := by
              unfold absS initSt St.put
              simp only
              rw [h1, absD_tm0]
              rfl
            intro X T a w hh
            have hl := hh.less ((absS ⟨caps.length + (fn.ntmps - caps.length), forb, []⟩ tm1 hp nx).put (some d) (recV u)).tmps (fun t => by
              show (if t = d then recV u else absT tm1 t) = (if t = d then recV u else (caps[t]?).getD (.sc undef)) ∨ (if t = d then recV u else absT tm1 t) = V.un
              by_cases g : t = d
              · rw [if_pos g, if_pos g]; exact .inl rfl
              · rw [if_neg g, if_neg g, h2 t]
                by_cases g2 : t < caps.length
                · rw [if_pos (by omega)]
                  left
                  rw [Nat.sub_zero, List.getElem?_eq_getElem g2]
                  rfl
                · rw [if_neg (by omega), absT_tm0]
                  exact .inr rfl)
            have e2 : ({ (initSt fn caps (absO hp) nx (inL forb) fun _ => false).put (some d) (recV u) with tmps := ((absS ⟨caps.length + (fn.ntmps - caps.length), forb, []⟩ tm1 hp nx).put (some d) (recV u)).tmps } : St) = (absS ⟨caps.length + (fn.ntmps - caps.length), forb, []⟩ tm1 hp nx).put (some d) (recV u) := by
              rw [e]
            rw [e2] at hl
            exact hq2 X T a w hl
          · exact Ans.no h
        · exact Ans.no h
      · exact Ans.no h
    · exact Ans.no h
  · exact Ans.no h

/-! ### Ends -/

noncomputable def finK (P : Program) (G : Gl) (res : Rs) (call : CallT) (forb : List PC) (kr kp : V → Hp → Nat → Ans) (ds : List V) : Option V → K3 :=
  List.rec (motive := fun _ => Option V → K3)
    (fun u tm hp nx => Option.rec (res.run tm hp fun l => resK l fun v => kr v hp nx) (fun v => kp v hp nx) u)
    (fun d ds ih u tm hp nx => d.onFn fun f caps => must (fnOK P f) ((dcl P G f).run call caps forb u hp nx fun rc hp' nx' => (acc2 V 255).upd tm (.tup ds) fun tm' => ih (Bool.rec u none rc) tm' hp' nx')) ds

theorem finK_sound (hm : P.follows .mixedOrders = true) {G : Gl} (hG : GOK' P G) {fn : Func} {call : CallT} (hc : CallOK ρ P call) {fr : Fr} {kr kp : V → Hp → Nat → Ans} : ∀ (ds : List V) (u : Option V) (tm : Tm) (hp : Hp) (nx : Nat), absD tm = ds →
    finK P G (rs P fn.results.toList) call fr.forb kr kp ds u tm hp nx = .ok → QFin ρ P fn (RK kr kp) ds u (absS fr tm hp nx)
  | [], none, tm, hp, nx, hD, h => by
    obtain ⟨vs, h1, h2, h⟩ := rs_inv (ρ := ρ) (fr := fr) (nx := nx) h
    exact ⟨resV vs, res_ok h1 h2, hp, rfl, resK_inv h⟩
  | [], some v, tm, hp, nx, hD, h => ⟨hp, rfl, h⟩
  | d :: ds, u, tm, hp, nx, hD, h => by
    obtain ⟨f, caps, rfl, h⟩ := V.onFn_inv h
    obtain ⟨h1, h⟩ := must_inv h
    obtain ⟨fd, h2, h3, h4⟩ := fnOK_ok h1
    refine ⟨f, caps, fd, rfl, h2, h3, h4, (dcl_sound hm hG hc h).mono fun rc O n hr => ?_⟩
    obtain ⟨hp', rfl, h⟩ := hr
    obtain ⟨_, h⟩ := acc2_upd h
    have e : ({ absS fr tm hp nx with objs := absO hp', next := n, defs := ds } : St) = absS fr (put2 tm 255 (.tup ds)) hp' n := by
      unfold absS
      have e1 : absT (put2 tm 255 (.tup ds)) = absT tm := by
        funext t
        unfold absT
        by_cases e : t < 255
        · rw [if_pos e, if_pos e, get_put2 _ _ _ _ (by omega) (by omega), if_neg (by omega)]
        · rw [if_neg e, if_neg e]
      have e2 : absD (put2 tm 255 (.tup ds)) = ds := by
        unfold absD
        rw [get_put2 _ _ _ _ (by omega) (by omega), if_pos rfl]
      rw [e1, e2]
    rw [e]
    have hD2 : absD (put2 tm 255 (.tup ds)) = ds := by
      unfold absD
      rw [get_put2 _ _ _ _ (by omega) (by omega), if_pos rfl]
    cases rc with
    | true => exact finK_sound hm hG hc ds none _ _ _ hD2 h
    | false => exact finK_sound hm hG hc ds u _ _ _ hD2 h

noncomputable def endK (P : Program) (G : Gl) (res : Rs) (call : CallT) (forb : List PC) (kr kp : V → Hp → Nat → Ans) (u : Option V) : K3 :=
  fun tm hp nx => (acc2 V 255).get tm fun v => v.onDefs (finK P G res call forb kr kp [] u tm hp nx) (fun l => finK P G res call forb kr kp l u tm hp nx)
theorem endK_sound (hm : P.follows .mixedOrders = true) {G : Gl} (hG : GOK' P G) {fn : Func} {call : CallT} (hc : CallOK ρ P call) {fr : Fr} {kr kp : V → Hp → Nat → Ans} {u : Option V} {tm : Tm} {hp : Hp} {nx : Nat}
    (h : endK P G (rs P fn.results.toList) call fr.forb kr kp u tm hp nx = .ok) : QFin ρ P fn (RK kr kp) (absS fr tm hp nx).defs u (absS fr tm hp nx) := by
  obtain ⟨_, h⟩ := acc2_get h
  rcases V.onDefs_inv h with ⟨l, h1, h⟩ | ⟨h1, h⟩
  · have : absD tm = l := by unfold absD; rw [h1]
    show QFin ρ P fn (RK kr kp) (absD tm) u _
    rw [this]
    exact finK_sound hm hG hc l u tm hp nx this h
  · have : absD tm = [] := by
      unfold absD
      split
      · rename_i l hl; exact (h1 l hl).elim
      · rfl
    show QFin ρ P fn (RK kr kp) (absD tm) u _
    rw [this]
    exact finK_sound hm hG hc [] u tm hp nx this h

/-- What outlives a panic. -/
noncomputable def keepL (l : List Nat) (tm : Tm) : Tm → (Tm → Ans) → Ans :=
  List.rec (motive := fun _ => Tm → (Tm → Ans) → Ans) (fun tm1 k => k tm1) (fun t _ ih tm1 k => (opd (.tmp t)).get tm fun v => (updD (some t)).run tm1 v fun tm2 => ih tm2 k) l
theorem keepL_inv {tm : Tm} : ∀ {l : List Nat} {tm1 : Tm} {k : Tm → Ans}, keepL l tm tm1 k = .ok → ∃ tm', k tm' = .ok ∧ absD tm' = absD tm1 ∧ ∀ t, absT tm' t = if t ∈ l then absT tm t else absT tm1 t
  | [], tm1, k, h => ⟨tm1, h, rfl, fun t => by simp⟩
  | s :: l, tm1, k, h => by
    have h := opd_inv (x := .tmp s) (k := fun v => (updD (some s)).run tm1 v fun tm2 => keepL l tm tm2 k) h ⟨0, [], []⟩ (N16.all (N16.all (N16.all (N16.all .no)))) 0
    obtain ⟨tm2, h, h1⟩ := updD_inv h
    obtain ⟨tm', h, h2, h3⟩ := keepL_inv (l := l) h
    have e := h1 ⟨0, [], []⟩ (N16.all (N16.all (N16.all (N16.all .no)))) 0
    have eT : absT tm2 = fun u => if u = s then absT tm s else absT tm1 u := (congrArg St.tmps e).symm
    have eD : absD tm2 = absD tm1 := (congrArg St.defs e).symm
    refine ⟨tm', h, h2.trans eD, fun t => ?_⟩
    rw [h3, eT]
    simp only [List.mem_cons]
    by_cases g : t ∈ l
    · rw [if_pos g, if_pos (.inr g)]
    · rw [if_neg g]
      by_cases g2 : t = s
      · subst g2
        rw [if_pos rfl, if_pos (.inl rfl)]
      · rw [if_neg g2, if_neg (by rintro (x | x); exact g2 x; exact g x)]

noncomputable def keepT (ks : List Nat) (tm : Tm) (k : Tm → Ans) : Ans := (acc2 V 255).get tm fun d => (acc2 V 255).upd tm0 d fun tm1 => keepL ks tm tm1 k
theorem keepT_inv {fr : Fr} {tm : Tm} {k : Tm → Ans} (h : keepT fr.ks tm k = .ok) (hp : Hp) (nx : Nat) : ∃ tm', k tm' = .ok ∧ absS fr tm' hp nx = (absS fr tm hp nx).keepS := by
  obtain ⟨_, h⟩ := acc2_get h
  obtain ⟨_, h⟩ := acc2_upd h
  obtain ⟨tm', h, h1, h2⟩ := keepL_inv h
  refine ⟨tm', h, ?_⟩
  have eD : absD tm' = absD tm := by
    rw [h1]
    unfold absD
    rw [get_put2 _ _ _ _ (by omega) (by omega), if_pos rfl]
  have eT : absT tm' = fun t => match fr.kept t with | true => absT tm t | false => .un := by
    funext t
    rw [h2 t]
    have e0 : absT (put2 tm0 255 (get2 tm 255)) t = .un := by
      unfold absT
      by_cases g : t < 255
      · rw [if_pos g, get_put2 _ _ _ _ (by omega) (by omega), if_neg (by omega)]
        unfold tm0 get2
        rw [N16.get_all, N16.get_all]
      · rw [if_neg g]
    rw [e0]
    cases e : fr.kept t with
    | true =>
      have : t ∈ fr.ks := by unfold Fr.kept at e; simpa using e
      rw [if_pos this]
    | false =>
      have : t ∉ fr.ks := by unfold Fr.kept at e; simpa using e
      rw [if_neg this]
  unfold absS St.keepS
  rw [eD, eT]
  rfl

/-! ### Functions -/

structure Bd where
  run : CallT → List V → List PC → Hp → Nat → (V → Hp → Nat → Ans) → (V → Hp → Nat → Ans) → Ans

noncomputable def bodyE (P : Program) (G : Gl) (res : Rs) (ks : List Nat) (call : CallT) (forb : List PC) (kr kp : V → Hp → Nat → Ans) : Env :=
  ⟨call, forb, fun _ _ _ _ => .err 96, endK P G res call forb kr kp none, fun v tm hp nx => keepT ks tm fun tm' => endK P G res call forb kr kp (some v) tm' hp nx, G.lm⟩

noncomputable def bdy (P : Program) (G : Gl) (f : FuncId) : Bd := match P.funcs[f]? with
  | some fn => match fn.body with
    | some c => ⟨fun call args forb hp nx kr kp => argsK args 0 tm0 fun tm => (comp P (G.pl f) c).run (bodyE P G (rs P fn.results.toList) (G.ks f) call forb kr kp) (endK P G (rs P fn.results.toList) call forb kr kp none) tm hp nx⟩
    | none => ⟨fun _ _ _ _ _ _ _ => .err 100⟩
  | none => ⟨fun _ _ _ _ _ _ _ => .err 100⟩

theorem bdy_sound (hm : P.follows .mixedOrders = true) {G : Gl} (hG : GOK' P G) {f : FuncId} {call : CallT} (hc : CallOK ρ P call) {args : List V} {forb : List PC} {hp : Hp} {nx : Nat} {kr kp : V → Hp → Nat → Ans}
    (h : (bdy P G f).run call args forb hp nx kr kp = .ok) : QCalls ρ P f args (absO hp) nx (inL forb) (RK kr kp) := by
  unfold bdy at h
  split at h
  · rename_i fn hfn
    split at h
    · rename_i c hb
      obtain ⟨tm, h, h1, h2⟩ := argsK_inv h
      have hn : fn.ntmps ≤ (⟨args.length + (fn.ntmps - args.length), forb, G.ks f⟩ : Fr).n := by show fn.ntmps ≤ args.length + (fn.ntmps - args.length); omega
      have hq := comp_sound (ρ := ρ) hm (fr := ⟨args.length + (fn.ntmps - args.length), forb, G.ks f⟩) hn c _ _ tm hp nx (hG f fn c hfn hb) rfl hc h
      refine qcalls_body (fun t => (G.ks f).contains t) hfn hb (qc_init h1 h2 (hq.mono fun e σ he => ?_))
      cases e with
      | normal => obtain ⟨tm', hp', nx', rfl, h⟩ := he; exact endK_sound hm hG hc h
      | ret => obtain ⟨tm', hp', nx', rfl, h⟩ := he; exact endK_sound hm hG hc h
      | exit id => obtain ⟨_, _, _, _, h⟩ := he; exact Ans.no h
      | panic v =>
        obtain ⟨tm', hp', nx', rfl, h⟩ := he
        obtain ⟨tm2, h, h3⟩ := keepT_inv (fr := ⟨args.length + (fn.ntmps - args.length), forb, G.ks f⟩) h hp' nx'
        have := endK_sound (ρ := ρ) (fn := fn) hm hG hc (fr := ⟨args.length + (fn.ntmps - args.length), forb, G.ks f⟩) h
        rw [h3] at this
        exact this
    · exact Ans.no h
  · exact Ans.no h

noncomputable def runF (P : Program) (G : Gl) (n : Nat) : CallT :=
  Nat.rec (motive := fun _ => CallT) (fun _ _ _ _ _ _ _ => .err 81) (fun _ ih f args forb hp nx kr kp => (bdy P G f).run ih args forb hp nx kr kp) n

theorem runF_sound (hm : P.follows .mixedOrders = true) {G : Gl} (hG : GOK' P G) : ∀ n, CallOK ρ P (runF P G n)
  | 0 => fun f args forb hp nx kr kp h => Ans.no h
  | n + 1 => fun f args forb hp nx kr kp h => bdy_sound hm hG (runF_sound hm hG n) h

def hp0 : Hp := N16.all (N16.all (N16.all (N16.all .no)))

/-- A run that ends well. -/
theorem run_sound (hm : P.follows .mixedOrders = true) {G : Gl} (hG : GOK' P G) (n : Nat) {f : FuncId} {args : List V} {kr kp : V → Hp → Nat → Ans} (h : runF P G n f args [] hp0 0 kr kp = .ok) :
    QCalls ρ P f args (absO hp0) 0 (inL []) (RK kr kp) := runF_sound hm hG n f args [] hp0 0 kr kp h

end Go.Proofs.YtjljgldgkkfckaaDoor.M
