/- Code, functions, as the kernel runs them. -/
import Derived.Test.YtjljgldgkkfckaaDoorMEs
namespace Go.Proofs.YtjljgldgkkfckaaDoor.M
open Go Go.RowKit
set_option linter.unusedSimpArgs false
set_option linter.unusedVariables false

variable {ρ : Nat → Value} {P : Program}

/-! ### Regions in the order of the text -/

structure Ch where
  run : Env → HsT → Tm → Hp → Nat → K3 → Ans

def isTupV : Value → Bool
  | .tuple _ => true
  | _ => false

/-- An operation under its guard: it is wanted, or it is not. -/
noncomputable def guardC (ops : Array Oper) (o : Oper) (y n : Ch) : Ch := match o.guard with
  | none => y
  | some (j, b) => match (ops[j]?).bind (·.dst) with
    | some t => match Nat.ble (Nat.succ t) 255 with
      | true => ⟨fun E hs tm hp nx k => (acc2 V t).get tm fun v => v.onGuard (fun x => boolK (x == b) (y.run E hs tm hp nx k) (n.run E hs tm hp nx k)) (fun w => must (isTupV w) (n.run E hs tm hp nx k))⟩
      | false => ⟨fun _ _ _ _ _ _ => .err 82⟩
    | none => ⟨fun _ _ _ _ _ _ => .err 83⟩

theorem guardC_inv {ops : Array Oper} {o : Oper} {y n : Ch} {E : Env} {hs : HsT} {tm : Tm} {hp : Hp} {nx : Nat} {k : K3} (h : (guardC ops o y n).run E hs tm hp nx k = .ok) (fr : Fr) :
    (wantV ops (absS fr tm hp nx) o = some true ∧ y.run E hs tm hp nx k = .ok) ∨ (wantV ops (absS fr tm hp nx) o = some false ∧ n.run E hs tm hp nx k = .ok) := by
  unfold guardC at h
  unfold wantV
  split at h
  · rename_i hg
    rw [hg]
    exact .inl ⟨rfl, h⟩
  · rename_i j b hg
    rw [hg]
    simp only
    split at h
    · rename_i t ht
      rw [ht]
      simp only
      split at h
      · rename_i hle
        obtain ⟨_, h⟩ := acc2_get h
        have hlt : t < 255 := Nat.le_of_ble_eq_true hle
        have e : (absS fr tm hp nx).tmps t = get2 tm t := by
          show absT tm t = _
          unfold absT
          rw [if_pos hlt]
        rw [e]
        rcases V.onGuard_inv h with ⟨x, hx, h⟩ | ⟨w, hx, h⟩
        · rw [hx]
          rcases boolK_inv h with ⟨h1, h⟩ | ⟨h1, h⟩
          · exact .inl ⟨congrArg some h1, h⟩
          · exact .inr ⟨congrArg some h1, h⟩
        · obtain ⟨h1, h⟩ := must_inv h
          rw [hx]
          refine .inr ⟨?_, h⟩
          unfold isTupV at h1
          split at h1
          · rfl
          · cases h1
      · exact Ans.no h
    · exact Ans.no h

noncomputable def skipC (o : Oper) (next : Ch) : Ch := ⟨fun E hs tm hp nx k => (updD o.dst).run tm (.sc undef) fun tm' => next.run E hs tm' hp nx k⟩
noncomputable def quietC (o : Oper) (q : QOp) (next : Ch) : Ch := ⟨fun E hs tm hp nx k => q.run tm hp hs fun v hs' => (updD o.dst).run tm v fun tm' => next.run E hs' tm' hp nx k⟩
noncomputable def stepC (P : Program) (ops : Array Oper) (i : Nat) (o : Oper) (next : Ch) : Ch := guardC ops o
  (match qop P i o with
    | some q => quietC o q next
    | none => ⟨fun E hs tm hp nx k => (lop P o).run E [] tm hp nx fun tm hp nx => next.run E hs tm hp nx k⟩)
  (skipC o next)

noncomputable def chain (P : Program) (ops : Array Oper) (l : List Oper) : Nat → Ch :=
  List.rec (motive := fun _ => Nat → Ch) (fun _ => ⟨fun _ _ tm hp nx k => k tm hp nx⟩) (fun o _ ih i => stepC P ops i o (ih (Nat.succ i))) l

theorem chain_sound {ops : Array Oper} {fr : Fr} {E : Env} (hf : E.forb = fr.forb) (hc : CallOK ρ P E.call) {k : K3} : ∀ (l : List Oper) (i : Nat) (hs : HsT) (tm : Tm) (hp : Hp) (nx : Nat), (∀ o ∈ l, ∀ t, o.dst = some t → t < fr.n) →
    (chain P ops l i).run E hs tm hp nx k = .ok → QS ρ P ops (KE fr E k) l (absS fr tm hp nx)
  | [], i, hs, tm, hp, nx, _, h => qs_done (nk_of h)
  | o :: l, i, hs, tm, hp, nx, hd, h => by
    have hdo : dstOK o (absS fr tm hp nx) := hd o List.mem_cons_self
    have hrest : ∀ o ∈ l, ∀ t, o.dst = some t → t < fr.n := fun o ho => hd o (List.mem_cons_of_mem _ ho)
    rcases guardC_inv h fr with ⟨hw, h⟩ | ⟨hw, h⟩
    · split at h
      · rename_i q hq
        obtain ⟨v, ids, h, h2⟩ := qop_spec (ρ := ρ) hq fr tm hp nx hs _ h
        obtain ⟨tm', h, h3⟩ := updD_inv h
        refine qs_by hw (qo_quiet h2 hdo ?_)
        rw [h3]
        exact chain_sound hf hc l _ _ _ _ _ hrest h
      · have := lop_spec (ρ := ρ) (o := o) fr E [] tm hp nx _ k hf hc hdo h
        refine qs_by hw (this.mono ?_)
        rintro σ ⟨tm', hp', nx', rfl, h⟩
        exact chain_sound hf hc l _ _ _ _ _ hrest h
    · obtain ⟨tm', h, h3⟩ := updD_inv h
      refine qs_skip hw hdo ?_
      rw [h3]
      exact chain_sound hf hc l _ _ _ _ _ hrest h

/-! ### Regions whose order is drawn -/

/-- A step of a plan: one that only looks is taken ahead; the one that must come up now, and which of those that were taken ahead may yet come up later. -/
inductive Step where
  | q (i : Nat)
  | l (u : Nat) (keep : List Nat)

def memN (i : Nat) : List Nat → Bool
  | [] => false
  | j :: l => Nat.beq i j || memN i l
theorem memN_iff {i : Nat} : ∀ {l : List Nat}, memN i l = true ↔ i ∈ l
  | [] => by simp [memN]
  | j :: l => by
    simp only [memN, Bool.or_eq_true, List.mem_cons, memN_iff (l := l)]
    constructor
    · exact fun h => h.imp Nat.eq_of_beq_eq_true id
    · exact fun h => h.imp (fun e => by rw [e]; exact Nat.beq_refl _) id

noncomputable def keepK (keep : List Nat) (hs : HsT) (k : HsT → List PC → Ans) : Ans :=
  List.rec (motive := fun _ => (HsT → List PC → Ans) → Ans) (fun k => k [] []) (fun x _ ih k => boolK (memN x.1 keep) (ih fun hs cs => k (x :: hs) (x.2 :: cs)) (ih k)) hs k
theorem keepK_inv {keep : List Nat} : ∀ {hs : HsT} {k : HsT → List PC → Ans}, keepK keep hs k = .ok → ∃ hs' cs, k hs' cs = .ok ∧ (∀ x ∈ hs, x ∈ hs' ∨ x.1 ∉ keep) ∧ ∀ x ∈ hs', x.2 ∈ cs ∧ x ∈ hs
  | [], k, h => ⟨[], [], h, by simp, by simp⟩
  | x :: hs, k, h => by
    rcases boolK_inv h with ⟨h1, h⟩ | ⟨h1, h⟩
    · obtain ⟨hs', cs, h, h2, h3⟩ := keepK_inv (hs := hs) h
      refine ⟨_, _, h, fun y hy => ?_, fun y hy => ?_⟩
      · rcases List.mem_cons.mp hy with e | e
        · exact .inl (by rw [e]; exact List.mem_cons_self)
        · exact (h2 y e).imp (List.mem_cons_of_mem _) id
      · rcases List.mem_cons.mp hy with e | e
        · rw [e]; exact ⟨List.mem_cons_self, List.mem_cons_self⟩
        · exact ⟨List.mem_cons_of_mem _ (h3 y e).1, List.mem_cons_of_mem _ (h3 y e).2⟩
    · obtain ⟨hs', cs, h, h2, h3⟩ := keepK_inv (hs := hs) (k := k) h
      refine ⟨hs', cs, h, fun y hy => ?_, fun y hy => ⟨(h3 y hy).1, List.mem_cons_of_mem _ (h3 y hy).2⟩⟩
      rcases List.mem_cons.mp hy with e | e
      · refine .inr fun g => ?_
        rw [e, ← memN_iff] at g
        rw [g] at h1
        cases h1
      · exact h2 y e

noncomputable def loudC (P : Program) (o : Oper) (keep : List Nat) (next : Ch) : Ch := ⟨fun E hs tm hp nx k => keepK keep hs fun hs' cs => (lop P o).run E cs tm hp nx fun tm hp nx => next.run E hs' tm hp nx k⟩
noncomputable def skipL (o : Oper) (keep : List Nat) (next : Ch) : Ch := ⟨fun E hs tm hp nx k => keepK keep hs fun hs' cs => (updD o.dst).run tm (.sc undef) fun tm' => next.run E hs' tm' hp nx k⟩

noncomputable def stepD (P : Program) (ops : Array Oper) (s : Step) (next : Ch) : Ch := match s with
  | .q i => match ops[i]? with
    | some o => guardC ops o (match qop P i o with
      | some q => quietC o q next
      | none => ⟨fun _ _ _ _ _ _ => .err 84⟩) (skipC o next)
    | none => ⟨fun _ _ _ _ _ _ => .err 85⟩
  | .l u keep => match ops[u]? with
    | some o => guardC ops o (loudC P o keep next) (skipL o keep next)
    | none => ⟨fun _ _ _ _ _ _ => .err 86⟩

/-- What a step that only looks takes ahead. -/
theorem stepD_q {ops : Array Oper} {i : Nat} {o : Oper} (ho : ops[i]? = some o) {next : Ch} {E : Env} {hs : HsT} {tm : Tm} {hp : Hp} {nx : Nat} {k : K3} (h : (stepD P ops (.q i) next).run E hs tm hp nx k = .ok) (fr : Fr) :
    ∃ (v : V) (es : List PC) (tm' : Tm), ((wantV ops (absS fr tm hp nx) o = some true ∧ QQ ρ P (absS fr tm hp nx) (inL es) o v) ∨ (wantV ops (absS fr tm hp nx) o = some false ∧ v = .sc undef)) ∧
      (absS fr tm hp nx).put o.dst v = absS fr tm' hp nx ∧ next.run E (es.map (fun e => (i, e)) ++ hs) tm' hp nx k = .ok := by
  have h : (match ops[i]? with
    | some o => guardC ops o (match qop P i o with
      | some q => quietC o q next
      | none => ⟨fun _ _ _ _ _ _ => .err 84⟩) (skipC o next)
    | none => ⟨fun _ _ _ _ _ _ => .err 85⟩ : Ch).run E hs tm hp nx k = .ok := h
  rw [ho] at h
  rcases guardC_inv h fr with ⟨hw, h⟩ | ⟨hw, h⟩
  · split at h
    · rename_i q hq
      obtain ⟨v, ids, h, h7⟩ := qop_spec (ρ := ρ) hq fr tm hp nx hs _ h
      obtain ⟨tm', h, h8⟩ := updD_inv h
      exact ⟨v, ids, tm', .inl ⟨hw, h7⟩, h8 fr hp nx, h⟩
    · exact Ans.no h
  · obtain ⟨tm', h, h8⟩ := updD_inv h
    exact ⟨_, [], tm', .inr ⟨hw, rfl⟩, h8 fr hp nx, h⟩

/-- What a step brings about that does more. -/
theorem stepD_l {ops : Array Oper} {u : Nat} {keep : List Nat} {o : Oper} (ho : ops[u]? = some o) {next : Ch} {E : Env} {hs : HsT} {tm : Tm} {hp : Hp} {nx : Nat} {k : K3} (h : (stepD P ops (.l u keep) next).run E hs tm hp nx k = .ok) {fr : Fr}
    (hf : E.forb = fr.forb) (hc : CallOK ρ P E.call) (hd : dstOK o (absS fr tm hp nx)) :
    ∃ (hs' : HsT) (cs : List PC), (∀ x ∈ hs, x ∈ hs' ∨ x.1 ∉ keep) ∧ (∀ x ∈ hs', x.2 ∈ cs ∧ x ∈ hs) ∧
      Brings ρ P ops (KE fr E k) u (inL cs) (NK fr fun tm hp nx => next.run E hs' tm hp nx k) (absS fr tm hp nx) := by
  have h : (match ops[u]? with
    | some o => guardC ops o (loudC P o keep next) (skipL o keep next)
    | none => ⟨fun _ _ _ _ _ _ => .err 86⟩ : Ch).run E hs tm hp nx k = .ok := h
  rw [ho] at h
  rcases guardC_inv h fr with ⟨hw, h⟩ | ⟨hw, h⟩
  · obtain ⟨hs', cs, h, h6, h7⟩ := keepK_inv h
    exact ⟨hs', cs, h6, h7, brings_do ho hw (lop_spec (ρ := ρ) (o := o) fr E cs tm hp nx _ k hf hc hd h)⟩
  · obtain ⟨hs', cs, h, h6, h7⟩ := keepK_inv h
    obtain ⟨tm', h, h8⟩ := updD_inv h
    refine ⟨hs', cs, h6, h7, brings_skip ho hw hd ?_⟩
    rw [h8]
    exact ⟨tm', hp, nx, rfl, h⟩

theorem Brings.mono {σ : St} {ops : Array Oper} {K : Ex → St → Prop} {u : Nat} {C : CellP} {N N' : St → Prop} (h : Brings ρ P ops K u C N σ) (hn : ∀ σ, N σ → N' σ) : Brings ρ P ops K u C N' σ :=
  fun X T a w hh => wpOp_mono (fun a' w' ⟨T', σ', h1, h2⟩ => ⟨T', σ', hn _ h1, h2⟩) (h X T a w hh)

/-- Does j come behind i, whatever order is picked? -/
def depB (ops : Array Oper) : Nat → Nat → Nat → Bool
  | 0, _, _ => false
  | n + 1, j, i => match ops[j]? with
    | some o => o.after.any fun e => Region.binds .any e && (Nat.beq e.on i || depB ops n e.on i)
    | none => false
theorem depB_ok {ops : Array Oper} : ∀ {n j i : Nat}, depB ops n j i = true → Dep ops j i
  | 0, _, _, h => by cases h
  | n + 1, j, i, h => by
    unfold depB at h
    split at h
    · rename_i o ho
      rw [Array.any_eq_true] at h
      obtain ⟨m, hm, h⟩ := h
      simp only [Bool.and_eq_true, Bool.or_eq_true] at h
      obtain ⟨hb, h⟩ := h
      have he : o.after[m] ∈ o.after := Array.getElem_mem hm
      rcases h with h | h
      · have := Nat.eq_of_beq_eq_true h
        rw [← this]
        exact .one ho he hb
      · exact .more ho he hb (depB_ok h)
    · cases h

/-- Are the operations that an operation comes behind such as may be given up? -/
def keepB (ops : Array Oper) (u : Nat) (keep : List Nat) : Bool := (List.range ops.size).all (fun s => memN s keep || depB ops ops.size u s)

def dstN (n : Nat) (ks : List Nat) (o : Oper) : Bool := match o.dst with | some t => Nat.ble (Nat.succ t) n && !ks.contains t | none => true
def dstL (n : Nat) (o : Oper) : Bool := match o.dst with | some t => Nat.ble (Nat.succ t) n | none => true
theorem dstN_ok {n : Nat} {fr : Fr} (hn : n ≤ fr.n) {o : Oper} (h : dstN n fr.ks o = true) {tm : Tm} {hp : Hp} {nx : Nat} : dstOK o (absS fr tm hp nx) ∧ ∀ t, o.dst = some t → (absS fr tm hp nx).ks t = false := by
  unfold dstN at h
  constructor
  · intro t ht
    rw [ht] at h
    simp only [Bool.and_eq_true] at h
    exact Nat.lt_of_lt_of_le (Nat.le_of_ble_eq_true h.1) hn
  · intro t ht
    rw [ht] at h
    simp only [Bool.and_eq_true, Bool.not_eq_true'] at h
    exact h.2
theorem dstL_ok {n : Nat} {fr : Fr} (hn : n ≤ fr.n) {o : Oper} (h : dstL n o = true) {tm : Tm} {hp : Hp} {nx : Nat} : dstOK o (absS fr tm hp nx) := by
  unfold dstL at h
  intro t ht
  rw [ht] at h
  exact Nat.lt_of_lt_of_le (Nat.le_of_ble_eq_true h) hn

theorem getElem?_lt {α : Type} {a : Array α} {i : Nat} {x : α} (h : a[i]? = some x) : i < a.size := by
  rcases Nat.lt_or_ge i a.size with g | g
  · exact g
  · rw [Array.getElem?_eq_none g] at h; cases h

/-- Whoever is listed is an operation of the region. -/
def HsIn (ops : Array Oper) (hs : HsT) : Prop := ∀ x ∈ hs, x.1 < ops.size

theorem HsIn.more {ops : Array Oper} {hs : HsT} (h : HsIn ops hs) {i : Nat} (hi : i < ops.size) (es : List PC) : HsIn ops (es.map (fun e => (i, e)) ++ hs) := by
  intro x hx
  rcases List.mem_append.mp hx with g | g
  · obtain ⟨j, _, rfl⟩ := List.mem_map.mp g
    exact hi
  · exact h x g

/-- What is said by the list. -/
def hsem (hs : HsT) : List (Nat × CellP) := hs.map fun x => (x.1, x.2.has)

theorem mem_hsem {hs : HsT} {s : Nat} {Q : CellP} : (s, Q) ∈ hsem hs ↔ ∃ e, (s, e) ∈ hs ∧ e.has = Q := by
  unfold hsem
  rw [List.mem_map]
  constructor
  · rintro ⟨⟨s', e⟩, h1, h2⟩
    cases h2
    exact ⟨e, h1, rfl⟩
  · rintro ⟨e, h1, rfl⟩
    exact ⟨(s, e), h1, rfl⟩

theorem keepB_ok {ops : Array Oper} {u : Nat} {keep : List Nat} (h : keepB ops u keep = true) {hs hs' : HsT} (hin : HsIn ops hs) (hx : ∀ x ∈ hs, x ∈ hs' ∨ x.1 ∉ keep) : ∀ s Q, (s, Q) ∈ hsem hs → (s, Q) ∈ hsem hs' ∨ Dep ops u s := by
  intro s Q hsj
  obtain ⟨e, h1, h2⟩ := mem_hsem.mp hsj
  rcases hx _ h1 with g | g
  · exact .inl (mem_hsem.mpr ⟨e, g, h2⟩)
  · right
    unfold keepB at h
    rw [List.all_eq_true] at h
    have := h s (List.mem_range.mpr (hin _ h1))
    simp only [Bool.or_eq_true] at this
    rcases this with e | e
    · exact absurd (memN_iff.mp e) g
    · exact depB_ok e

theorem cs_ok {hs hs' : HsT} {cs : List PC} (h : ∀ x ∈ hs', x.2 ∈ cs ∧ x ∈ hs) : ∀ s Q, (s, Q) ∈ hsem hs' → ∀ k r c, Q k r c → inL cs k r c := by
  intro s Q hs k r c hq
  obtain ⟨e, h1, rfl⟩ := mem_hsem.mp hs
  exact ⟨e, (h _ h1).1, hq⟩

theorem si_more {ops : Array Oper} {loud : Nat → Bool} {D : Nat → Prop} {T : Tab} {objs : Objs} {w : World} {hs : HsT} {i : Nat} {es : List PC} {L : Array Bool} {w' : World} (h : SI ops loud D T objs w (hsem (es.map (fun e => (i, e)) ++ hs)) L w') :
    SI ops loud D T objs w ((i, inL es) :: hsem hs) L w' := by
  obtain ⟨h1, h2, h3⟩ := h
  refine ⟨h1, h2, fun s Q hsQ hd => ?_⟩
  rcases List.mem_cons.mp hsQ with g | g
  · cases g
    rintro k r c p ⟨e, he, hx⟩ hne hT hlt
    exact h3 i e.has (mem_hsem.mpr ⟨e, List.mem_append_left _ (List.mem_map.mpr ⟨e, he, rfl⟩), rfl⟩) hd k r c p hx hne hT hlt
  · obtain ⟨e, g1, g2⟩ := mem_hsem.mp g
    exact h3 s Q (mem_hsem.mpr ⟨e, List.mem_append_right _ g1, g2⟩) hd

theorem QA.more {ops : Array Oper} {loud : Nat → Bool} {K : Ex → St → Prop} {f : Nat} {L : Array Bool} {hs : HsT} {i : Nat} {es : List PC} {σ : St} (h : QA ρ P ops loud K f L (hsem (es.map (fun e => (i, e)) ++ hs)) σ) : QA ρ P ops loud K f L ((i, inL es) :: hsem hs) σ :=
  fun X T a w hh => wpAnyS_weak (fun _ _ => si_more) _ _ _ _ (h X T a w hh)

theorem QAP.more {ops : Array Oper} {loud : Nat → Bool} {K : Ex → St → Prop} {B : Nat → Born} {G : List Nat} {f : Nat} {L : Array Bool} {hs : HsT} {i : Nat} {es : List PC} {σ : St} (h : QAP ρ P ops loud K B G f L (hsem (es.map (fun e => (i, e)) ++ hs)) σ) : QAP ρ P ops loud K B G f L ((i, inL es) :: hsem hs) σ :=
  fun E bs X T a w hh hA => wpAnyS_weak (fun _ _ => si_more) _ _ _ _ (h E bs X T a w hh hA)

/-- A step of a plan; or objects of noughts are made (those of gs), and meanwhile other steps are taken. -/
inductive Plan where
  | s (x : Step)
  | g (gs : List Nat) (inner : List Step)

end Go.Proofs.YtjljgldgkkfckaaDoor.M
