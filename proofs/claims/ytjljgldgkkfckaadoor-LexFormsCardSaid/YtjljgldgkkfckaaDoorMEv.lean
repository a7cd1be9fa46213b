/- Code and functions, as the kernel runs them. -/
import Derived.Test.YtjljgldgkkfckaaDoorMEp
namespace Go.Proofs.YtjljgldgkkfckaaDoor.M
open Go Go.RowKit
set_option linter.unusedSimpArgs false
set_option linter.unusedVariables false

variable {ρ : Nat → Value} {P : Program}

/-- What is known of all functions: the plans of regions whose order is drawn, slots that outlive a panic. -/
structure Gl where
  pl : FuncId → Nat → List Plan
  ks : FuncId → List Nat
  lm : Bool := false

structure Cd where
  run : Env → K3 → Tm → Hp → Nat → Ans

noncomputable def roundsK (c : Env → K3 → Tm → Hp → Nat → Ans) (E : Env) (n : Nat) : K3 := Nat.rec (motive := fun _ => K3) (fun _ _ _ => .err 90) (fun _ ih tm hp nx => c E ih tm hp nx) n

@[irreducible] def rounds0 : Nat := 18446744073709551616

noncomputable def comp (P : Program) (pl : Nat → List Plan) (c : Code) : Cd :=
  Code.rec (motive := fun _ => Cd)
    (⟨fun _ k tm hp nx => k tm hp nx⟩)
    (fun id ops draw => match draw with
      | false => ⟨fun E k tm hp nx => (chain P ops ops.toList 0).run E [] tm hp nx k⟩
      | true => ⟨fun E k tm hp nx => (dchain P ops (pl id)).run E [] tm hp nx k⟩)
    (fun _ _ iha ihb => ⟨fun E k tm hp nx => iha.run E (fun tm hp nx => ihb.run E k tm hp nx) tm hp nx⟩)
    (fun c _ _ iha ihb => ⟨fun E k tm hp nx => (opd c).get tm fun v => v.onBool fun b => boolK b (iha.run E k tm hp nx) (ihb.run E k tm hp nx)⟩)
    (fun id _ ih => ⟨fun E k tm hp nx => ih.run ⟨E.call, E.forb, fun j => Bool.rec (E.kx j) k (Nat.beq j id), E.kr, E.kp, E.lm⟩ k tm hp nx⟩)
    (fun _ ih => ⟨fun E _ tm hp nx => roundsK ih.run E rounds0 tm hp nx⟩)
    (fun _ _ _ _ _ _ => ⟨fun _ _ _ _ _ => .err 91⟩)
    (fun id => ⟨fun E _ tm hp nx => E.kx id tm hp nx⟩)
    (fun _ _ => ⟨fun _ _ _ _ _ => .err 92⟩)
    (fun _ => ⟨fun _ _ _ _ _ => .err 93⟩)
    (fun _ => ⟨fun _ _ _ _ _ => .err 94⟩)
    ⟨fun E _ tm hp nx => E.kr tm hp nx⟩
    (fun _ => ⟨fun _ _ _ _ _ => .err 95⟩)
    c

def dstB (n : Nat) (o : Oper) : Bool := match o.dst with
  | some t => Nat.ble (Nat.succ t) n
  | none => true

/-- Are all slots there, all plans such as may be followed? -/
def okC (n : Nat) (ks : List Nat) (pl : Nat → List Plan) : Code → Bool
  | .region id ops false => ops.toList.all (dstB n)
  | .region id ops true => ops.toList.all (dstB n) && Region.noSelect ops && chk ops (isLoud (pl id)) n ks ops.size (Array.replicate ops.size false) (pl id)
  | .seq a b => okC n ks pl a && okC n ks pl b
  | .cond _ a b => okC n ks pl a && okC n ks pl b
  | .block _ c => okC n ks pl c
  | .loop c => okC n ks pl c
  | _ => true

theorem dsts_of {n : Nat} {fr : Fr} (hn : n ≤ fr.n) {l : List Oper} (h : l.all (dstB n) = true) : ∀ o ∈ l, ∀ t, o.dst = some t → t < fr.n := by
  intro o ho t ht
  rw [List.all_eq_true] at h
  have := h o ho
  unfold dstB at this
  rw [ht] at this
  exact Nat.lt_of_lt_of_le (Nat.le_of_ble_eq_true this) hn

theorem closed_start (ops : Array Oper) (n : Nat) : Closed ops (Array.replicate n false) := by
  intro j o hj
  simp [Array.getD_eq_getD_getElem?, Array.getElem?_replicate] at hj
  split at hj <;> simp at hj

theorem comp_sound (hm : P.follows .mixedOrders = true) {pl : Nat → List Plan} {fr : Fr} {n : Nat} (hn : n ≤ fr.n) : ∀ (c : Code) (E : Env) (k : K3) (tm : Tm) (hp : Hp) (nx : Nat), okC n fr.ks pl c = true → E.forb = fr.forb → CallOK ρ P E.call →
    (comp P pl c).run E k tm hp nx = .ok → QC ρ P c (absS fr tm hp nx) (KE fr E k) := by
  intro c
  induction c with
  | skip => exact fun E k tm hp nx _ _ _ h => q_skip (nk_of h)
  | region id ops draw =>
    intro E k tm hp nx hok hf hc h
    cases draw with
    | false => exact q_region (chain_sound hf hc ops.toList 0 [] tm hp nx (dsts_of hn hok) h)
    | true =>
      have hok : (ops.toList.all (dstB n) && Region.noSelect ops && chk ops (isLoud (pl id)) n fr.ks ops.size (Array.replicate ops.size false) (pl id)) = true := hok
      simp only [Bool.and_eq_true] at hok
      exact q_region_draw hm (dchain_sound hok.1.2 hn hf hc (pl id) _ _ [] tm hp nx hok.2 (closed_start _ _) (fun x hx => by cases hx) h)
  | seq a b iha ihb =>
    intro E k tm hp nx hok hf hc h
    have hok : (okC n fr.ks pl a && okC n fr.ks pl b) = true := hok
    simp only [Bool.and_eq_true] at hok
    refine q_seq ((iha E _ tm hp nx hok.1 hf hc h).mono fun e σ he => ?_)
    cases e with
    | normal =>
      obtain ⟨tm', hp', nx', rfl, h⟩ := he
      exact ihb E k _ _ _ hok.2 hf hc h
    | _ => exact he
  | cond c a b iha ihb =>
    intro E k tm hp nx hok hf hc h
    have hok : (okC n fr.ks pl a && okC n fr.ks pl b) = true := hok
    simp only [Bool.and_eq_true] at hok
    obtain ⟨t, h1, h⟩ := V.onBool_inv (opd_inv (k := fun v => v.onBool fun b' => boolK b' ((comp P pl a).run E k tm hp nx) ((comp P pl b).run E k tm hp nx)) h fr hp nx)
    refine q_cond h1 ?_
    rcases boolK_inv h with ⟨rfl, h⟩ | ⟨rfl, h⟩
    · exact iha E k _ _ _ hok.1 hf hc h
    · exact ihb E k _ _ _ hok.2 hf hc h
  | block id c ih =>
    intro E k tm hp nx hok hf hc h
    refine q_block ((ih _ k tm hp nx hok (by exact hf) (by exact hc) h).mono fun e σ he => ?_)
    cases e with
    | exit j =>
      obtain ⟨tm', hp', nx', rfl, h⟩ := he
      have h : (Bool.rec (E.kx j) k (Nat.beq j id) : K3) tm' hp' nx' = .ok := h
      cases e : Nat.beq j id with
      | true => rw [e] at h; simp only [blockK, e]; exact nk_of (k := k) h
      | false => rw [e] at h; simp only [blockK, e]; exact nk_of (k := E.kx j) h
    | normal => exact he
    | ret => exact he
    | panic v => exact he
  | loop c ih =>
    intro E k tm hp nx hok hf hc h
    have main : ∀ (m : Nat) (tm : Tm) (hp : Hp) (nx : Nat), roundsK (comp P pl c).run E m tm hp nx = .ok → QR ρ P c (KE fr E k) m (absS fr tm hp nx) := by
      intro m
      induction m with
      | zero => exact fun _ _ _ h => Ans.no h
      | succ m ihm =>
        intro tm hp nx h
        refine (ih E (roundsK (comp P pl c).run E m) tm hp nx hok hf hc h).mono fun e σ he => ?_
        cases e with
        | normal =>
          obtain ⟨tm', hp', nx', rfl, h⟩ := he
          exact ihm _ _ _ h
        | _ => exact he
    exact q_rounds rounds0 (main rounds0 tm hp nx h)
  | rangeFunc f ps a b _ _ => exact fun E k tm hp nx _ _ _ h => Ans.no h
  | exit id => exact fun E k tm hp nx _ _ _ h => q_exit ⟨tm, hp, nx, rfl, h⟩
  | scope c _ => exact fun E k tm hp nx _ _ _ h => Ans.no h
  | label l => exact fun E k tm hp nx _ _ _ h => Ans.no h
  | goto l => exact fun E k tm hp nx _ _ _ h => Ans.no h
  | ret => exact fun E k tm hp nx _ _ _ h => q_ret ⟨tm, hp, nx, rfl, h⟩
  | refuse w => exact fun E k tm hp nx _ _ _ h => Ans.no h

/-! ### Results -/

theorem QQ.more {σ : St} {C C' : CellP} {o : Oper} {v : V} (h : QQ ρ P σ C o v) (hc : ∀ k r c, C k r c → C' k r c) : QQ ρ P σ C' o v := by
  intro X T a w hh
  obtain ⟨x, h1, h2⟩ := h X T a w hh
  exact ⟨x, h1, fun w' hw hsm => h2 w' hw (hsm.mono hc)⟩

structure Rs where
  run : Tm → Hp → (List V → Ans) → Ans
noncomputable def rs (P : Program) (l : List ResultVar) : Rs := List.rec (motive := fun _ => Rs) ⟨fun _ _ k => k []⟩ (fun r _ ih => match r with
  | .tmp t => ⟨fun tm hp k => (opd (.tmp t)).get tm fun v => ih.run tm hp fun l => k (v :: l)⟩
  | .cell t ty => ⟨fun tm hp k => (qLoad P 0 ty (.tmp t)).run tm hp [] fun v _ => ih.run tm hp fun l => k (v :: l)⟩) l

theorem rs_inv {fr : Fr} {tm : Tm} {hp : Hp} {nx : Nat} : ∀ {l : List ResultVar} {k : List V → Ans}, (rs P l).run tm hp k = .ok → ∃ vs, vs.length = l.length ∧ (∀ (i : Nat) (rv : ResultVar) (v : V), l[i]? = some rv → vs[i]? = some v → ResAt ρ P (absS fr tm hp nx) rv v) ∧ k vs = .ok
  | [], k, h => ⟨[], rfl, fun i rv v h => by simp at h, h⟩
  | r :: l, k, h => by
    have step : ∃ v, ResAt ρ P (absS fr tm hp nx) r v ∧ ((rs P l).run tm hp fun l => k (v :: l)) = .ok := by
      cases r with
      | tmp t =>
        have h := opd_inv (x := .tmp t) (k := fun v => (rs P l).run tm hp fun l => k (v :: l)) h fr hp nx
        exact ⟨_, .tmp t, h⟩
      | cell t ty =>
        have hq : QSpec ρ P 0 { dst := none, op := .load ty (.tmp t), type := ty, pos := "", after := #[], guard := none } (qLoad P 0 ty (.tmp t)) := qLoad_spec rfl
        obtain ⟨v, ids, h1, h2⟩ := hq fr tm hp nx [] (fun v _ => (rs P l).run tm hp fun l => k (v :: l)) h
        exact ⟨v, .cell t ty v (h2.more fun _ _ _ _ => trivial), h1⟩
    obtain ⟨v, h1, h⟩ := step
    obtain ⟨vs, h2, h3, h⟩ := rs_inv (l := l) h
    refine ⟨v :: vs, by simp [h2], fun i rv q hi hq => ?_, h⟩
    cases i with
    | zero =>
      simp at hi hq
      subst hi hq
      exact h1
    | succ i => exact h3 i rv q (by simpa using hi) (by simpa using hq)

/-- One result as it is, several as a tuple. -/
noncomputable def resK (l : List V) (k : V → Ans) : Ans := List.rec (motive := fun _ => AnsT) (k (.tup l)) (fun q t _ => List.rec (motive := fun _ => AnsT) (k q) (fun _ _ _ => k (.tup l)) t) l
theorem resK_inv {l : List V} {k : V → Ans} (h : resK l k = .ok) : k (resV l) = .ok := by
  cases l with
  | nil => exact h
  | cons q t =>
    cases t with
    | nil => exact h
    | cons _ _ => exact h

/-! ### Arguments -/

noncomputable def argsK (l : List V) : Nat → Tm → (Tm → Ans) → Ans :=
  List.rec (motive := fun _ => Nat → Tm → (Tm → Ans) → Ans) (fun _ tm k => k tm) (fun v _ ih i tm k => (updD (some i)).run tm v fun tm' => ih (Nat.succ i) tm' k) l
def tm0 : Tm := N16.all (N16.all .un)

theorem argsK_inv : ∀ {l : List V} {i : Nat} {tm : Tm} {k : Tm → Ans}, argsK l i tm k = .ok → ∃ tm', k tm' = .ok ∧ absD tm' = absD tm ∧ ∀ t, absT tm' t = if i ≤ t ∧ t < i + l.length then (l[t - i]?).getD .un else absT tm t
  | [], i, tm, k, h => ⟨tm, h, rfl, fun t => by rw [if_neg (by simp)]⟩
  | v :: l, i, tm, k, h => by
    obtain ⟨tm1, h, h1⟩ := updD_inv h
    obtain ⟨tm', h, h2, h3⟩ := argsK_inv (l := l) (i := i + 1) h
    have e := h1 ⟨0, [], []⟩ (N16.all (N16.all (N16.all (N16.all .no)))) 0
    have eT : absT tm1 = fun u => if u = i then v else absT tm u := (congrArg St.tmps e).symm
    have eD : absD tm1 = absD tm := (congrArg St.defs e).symm
    refine ⟨tm', h, h2.trans eD, fun t => ?_⟩
    rw [h3, eT]
    simp only [List.length_cons]
    by_cases e : t = i
    · subst e
      rw [if_neg (by omega), if_pos rfl, if_pos (by omega)]
      simp
    · rw [if_neg e]
      by_cases e2 : i + 1 ≤ t ∧ t < i + 1 + l.length
      · rw [if_pos e2, if_pos (by omega)]
        obtain ⟨m, hm⟩ : ∃ m, t - i = m + 1 := ⟨t - i - 1, by omega⟩
        rw [hm, show t - (i + 1) = m by omega]
        simp
      · rw [if_neg e2, if_neg (by omega)]

theorem absT_tm0 (t : Nat) : absT tm0 t = .un := by
  unfold absT tm0 get2
  rw [N16.get_all, N16.get_all]
  split <;> rfl
theorem absD_tm0 : absD tm0 = [] := rfl

theorem QC.less {c : Code} {σ : St} {f : Nat → V} {K : Ex → St → Prop} (h : QC ρ P c { σ with tmps := f } K) (hf : ∀ t, f t = σ.tmps t ∨ f t = .un) : QC ρ P c σ K :=
  fun X T a w hh => h X T a w (hh.less f hf)

/-- From arguments into slots. -/
theorem qc_init {c : Code} {fn : Func} {args : List V} {forb : List PC} {ks : List Nat} {tm : Tm} {hp : Hp} {nx : Nat} {K : Ex → St → Prop} (hD : absD tm = []) (hT : ∀ t, absT tm t = if 0 ≤ t ∧ t < 0 + args.length then (args[t - 0]?).getD .un else absT tm0 t)
    (h : QC ρ P c (absS ⟨args.length + (fn.ntmps - args.length), forb, ks⟩ tm hp nx) K) : QC ρ P c (initSt fn args (absO hp) nx (inL forb) (fun t => ks.contains t)) K := by
  have e : absS ⟨args.length + (fn.ntmps - args.length), forb, ks⟩ tm hp nx = { initSt fn args (absO hp) nx (inL forb) (fun t => ks.contains t) with tmps := absT tm } := by
    unfold absS initSt
    rw [hD]
    rfl
  rw [e] at h
  refine h.less fun t => ?_
  rw [hT t]
  by_cases g : t < args.length
  · rw [if_pos (by omega)]
    left
    show (args[t - 0]?).getD .un = (args[t]?).getD (.sc undef)
    rw [Nat.sub_zero, List.getElem?_eq_getElem g]
    rfl
  · rw [if_neg (by omega), absT_tm0]
    exact .inr rfl

end Go.Proofs.YtjljgldgkkfckaaDoor.M
