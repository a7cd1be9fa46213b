/- Plans of regions whose order is drawn: as the kernel follows them, what is to be checked of them. -/
import Derived.Test.YtjljgldgkkfckaaDoorMEg
namespace Go.Proofs.YtjljgldgkkfckaaDoor.M
open Go Go.RowKit
set_option linter.unusedSimpArgs false
set_option linter.unusedVariables false

variable {ρ : Nat → Value} {P : Program}

noncomputable def gchain (P : Program) (ops : Array Oper) (gds : List GD) (ns : List Nat) (next : Ch) (l : List Step) : Ch :=
  List.rec (motive := fun _ => Ch) next (fun s _ ih => match s with
    | .q i => stepD P ops (.q i) ih
    | .l u keep => ⟨fun E hs tm hp nx k => chkK gds tm ns ((stepD P ops (.l u keep) ih).run E hs tm hp nx k)⟩) l

noncomputable def stepP (P : Program) (ops : Array Oper) (p : Plan) (next : Ch) : Ch := match p with
  | .s x => stepD P ops x next
  | .g gs inner => match gdsOf P ops gs with
    | some gds => ⟨fun E hs tm hp nx k => sizesK gds tm fun ns => unsetK gds tm fun tm =>
        (gchain P ops gds ns ⟨fun E hs tm hp nx k => chkK gds tm ns (adoptK gds ns tm hp nx fun tm hp nx => next.run E hs tm hp nx k)⟩ inner).run E hs tm hp nx k⟩
    | none => ⟨fun _ _ _ _ _ _ => .err 153⟩

noncomputable def dchain (P : Program) (ops : Array Oper) (l : List Plan) : Ch :=
  List.rec (motive := fun _ => Ch) ⟨fun _ _ tm hp nx k => k tm hp nx⟩ (fun p _ ih => stepP P ops p ih) l

/-! ### What is to be checked -/

/-- A step that only looks. -/
def chkQ (ops : Array Oper) (loud : Nat → Bool) (n : Nat) (ks : List Nat) (L : Array Bool) (i : Nat) : Bool := match ops[i]? with
  | some o => dstN n ks o && !loud i && Region.free .any ops L i && (Region.ready .any ops L).contains i
  | none => false
/-- A step that does more, and must come now. -/
def chkL (ops : Array Oper) (loud : Nat → Bool) (n : Nat) (L : Array Bool) (u : Nat) (keep : List Nat) : Bool := match ops[u]? with
  | some o => dstL n o && loud u && (match Region.ready .any ops L with | [v] => Nat.beq v u | _ => false) && keepB ops u keep
  | none => false

def onlyB (ops : Array Oper) (L : Array Bool) (gs : List Nat) (u : Nat) : Bool := (List.range L.size).all fun j => L.getD j true || memN j gs || Nat.beq j u || (match ops[j]? with
  | some o => o.after.any fun e => Region.binds .any e && !memN e.on gs && !L.getD e.on false
  | none => false)
def lastB (ops : Array Oper) (L : Array Bool) (gs : List Nat) : Bool := (List.range L.size).all fun j => L.getD j true || memN j gs || (match ops[j]? with
  | some o => (o.after.any fun e => Region.binds .any e && !memN e.on gs && !L.getD e.on false) || (gs.all fun g => o.after.any fun e => Region.binds .any e && Nat.beq e.on g && !L.getD g false)
  | none => false)

def chkI (ops : Array Oper) (loud : Nat → Bool) (n : Nat) (ks : List Nat) (gs : List Nat) : Nat → Array Bool → List Step → Option (Nat × Array Bool)
  | f, L, [] => some (f, L)
  | 0, _, _ :: _ => none
  | f + 1, L, .q i :: r => match chkQ ops loud n ks L i && !memN i gs with
    | true => chkI ops loud n ks gs f (L.setIfInBounds i true) r
    | false => none
  | f + 1, L, .l u keep :: r => match ops[u]? with
    | some o => match dstL n o && loud u && (Region.ready .any ops L).contains u && onlyB ops L gs u && keepB ops u keep with
      | true => chkI ops loud n ks gs f (L.setIfInBounds u true) r
      | false => none
    | none => none

def noDup : List Nat → Bool
  | [] => true
  | g :: gs => !memN g gs && noDup gs

def chkM (ops : Array Oper) (loud : Nat → Bool) (n : Nat) (g : Nat) : Bool := match ops[g]? with
  | some o => match o.dst, o.guard with
    | some d, none => Nat.ble (Nat.succ d) n && Nat.ble (Nat.succ d) 255 && !loud g && (List.range ops.size).all fun j => Nat.beq j g || (match ops[j]? with | some o' => (match o'.dst with | some t => !Nat.beq t d | none => true) | none => true)
    | _, _ => false
  | none => false

def isLoudS : List Step → Nat → Bool
  | [], _ => false
  | .q _ :: r, i => isLoudS r i
  | .l u _ :: r, i => Nat.beq i u || isLoudS r i
def isLoud : List Plan → Nat → Bool
  | [], _ => false
  | .s x :: r, i => isLoudS [x] i || isLoud r i
  | .g _ inner :: r, i => isLoudS inner i || isLoud r i

/-- Is the plan one that may be followed? -/
def chk (ops : Array Oper) (loud : Nat → Bool) (n : Nat) (ks : List Nat) : Nat → Array Bool → List Plan → Bool
  | _, L, [] => (Region.ready .any ops L).isEmpty
  | 0, _, _ :: _ => false
  | f + 1, L, .s (.q i) :: r => chkQ ops loud n ks L i && chk ops loud n ks f (L.setIfInBounds i true) r
  | f + 1, L, .s (.l u keep) :: r => chkL ops loud n L u keep && chk ops loud n ks f (L.setIfInBounds u true) r
  | f + 1, L, .g gs inner :: r => noDup gs && gs.all (chkM ops loud n) && Nat.ble gs.length (f + 1) && (match chkI ops loud n ks gs (f + 1 - gs.length) L inner with
    | some (f', L') => lastB ops L' gs && gs.all (fun g => (Region.ready .any ops L').contains g) && chk ops loud n ks f' (listE L' gs) r
    | none => false)

/-! ### It holds what it promises -/

theorem noDup_ok : ∀ {gs : List Nat}, noDup gs = true → gs.Nodup
  | [], _ => List.nodup_nil
  | g :: gs, h => by
    simp only [noDup, Bool.and_eq_true, Bool.not_eq_true'] at h
    refine List.nodup_cons.mpr ⟨fun hg => ?_, noDup_ok h.2⟩
    rw [memN_iff.mpr hg] at h
    cases h.1

theorem any_edge {a : Array Edge} {p : Edge → Bool} (h : a.any p = true) : ∃ e ∈ a, p e = true := by
  rw [Array.any_eq_true] at h
  obtain ⟨m, hm, h⟩ := h
  exact ⟨a[m], Array.getElem_mem hm, h⟩

theorem getD_true_lt {L : Array Bool} {j : Nat} (h : L.getD j true = false) : j < L.size := by
  rcases Nat.lt_or_ge j L.size with g | g
  · exact g
  · simp [Array.getElem?_eq_none g] at h

theorem not_memN {i : Nat} {l : List Nat} (h : memN i l = false) : i ∉ l := fun g => by rw [memN_iff.mpr g] at h; cases h

theorem onlyB_ok {ops : Array Oper} {L : Array Bool} {gs : List Nat} {u : Nat} (h : onlyB ops L gs u = true) : Only ops L gs (fun j => Nat.beq j u) := by
  intro j hj hg hu
  have hu : Nat.beq j u = false := hu
  unfold onlyB at h
  rw [List.all_eq_true] at h
  have := h j (List.mem_range.mpr (getD_true_lt hj))
  have hg' : memN j gs = false := by
    cases e : memN j gs with
    | false => rfl
    | true => exact (hg (memN_iff.mp e)).elim
  rw [hj, hg', hu] at this
  simp only [Bool.false_or] at this
  split at this
  · rename_i o ho
    obtain ⟨e, he, hp⟩ := any_edge this
    simp only [Bool.and_eq_true, Bool.not_eq_true'] at hp
    exact ⟨o, ho, e, he, hp.1.1, not_memN hp.1.2, hp.2⟩
  · cases this

theorem lastB_ok {ops : Array Oper} {L : Array Bool} {gs : List Nat} (h : lastB ops L gs = true) : Last ops L gs := by
  intro j hj hg
  unfold lastB at h
  rw [List.all_eq_true] at h
  have := h j (List.mem_range.mpr (getD_true_lt hj))
  have hg' : memN j gs = false := by
    cases e : memN j gs with
    | false => rfl
    | true => exact (hg (memN_iff.mp e)).elim
  rw [hj, hg'] at this
  simp only [Bool.false_or] at this
  split at this
  · rename_i o ho
    refine ⟨o, ho, ?_⟩
    rw [Bool.or_eq_true] at this
    rcases this with h1 | h1
    · obtain ⟨e, he, hp⟩ := any_edge h1
      simp only [Bool.and_eq_true, Bool.not_eq_true'] at hp
      exact .inl ⟨e, he, hp.1.1, not_memN hp.1.2, hp.2⟩
    · refine .inr fun g hg => ?_
      rw [List.all_eq_true] at h1
      obtain ⟨e, he, hp⟩ := any_edge (h1 g hg)
      simp only [Bool.and_eq_true, Bool.not_eq_true'] at hp
      exact ⟨e, he, hp.1.1, Nat.eq_of_beq_eq_true hp.1.2, hp.2⟩
  · cases this

theorem gok_ok {ops : Array Oper} {loud : Nat → Bool} {n : Nat} {B : Nat → Born} {gs : List Nat} {gds : List GD} {ns : List Nat} (h1 : noDup gs = true) (h2 : gs.all (chkM ops loud n) = true) (hF : Fits ρ P ops B gs gds ns) :
    GOK ops loud B gs ∧ ∀ g ∈ gs, (B g).d < n ∧ (B g).d < 255 := by
  have key : ∀ (gs : List Nat) (gds : List GD) (ns : List Nat), Fits ρ P ops B gs gds ns → ∀ g ∈ gs, ∃ o, ops[g]? = some o ∧ o.dst = some (B g).d ∧ o.guard = none := by
    intro gs
    induction gs with
    | nil => intro _ _ _ g hg; cases hg
    | cons x gs ih =>
      intro gds ns hF g hg
      cases gds with
      | nil => exact hF.elim
      | cons gd gds =>
        cases ns with
        | nil => exact hF.elim
        | cons m ns =>
          obtain ⟨⟨o, ho, q1, q2, hG⟩, hF⟩ := hF
          rcases List.mem_cons.mp hg with e | e
          · subst e
            exact ⟨o, ho, by rw [hG.d]; exact q1, q2⟩
          · exact ih gds ns hF g e
  rw [List.all_eq_true] at h2
  have full : ∀ g ∈ gs, ((B g).d < n ∧ (B g).d < 255) ∧ loud g = false ∧ ∀ (j : Nat) (o : Oper), ops[j]? = some o → j ≠ g → o.dst ≠ some (B g).d := by
    intro g hg
    obtain ⟨o, ho, hd, hgu⟩ := key gs gds ns hF g hg
    have h3 := h2 g hg
    unfold chkM at h3
    rw [ho] at h3
    simp only [hd, hgu, Bool.and_eq_true, Bool.not_eq_true'] at h3
    obtain ⟨⟨⟨q1, q2⟩, q3⟩, q4⟩ := h3
    refine ⟨⟨Nat.le_of_ble_eq_true q1, Nat.le_of_ble_eq_true q2⟩, q3, fun j o' ho' hj hd' => ?_⟩
    rw [List.all_eq_true] at q4
    have := q4 j (List.mem_range.mpr (getElem?_lt ho'))
    have hb : Nat.beq j g = false := by
      cases e : Nat.beq j g with
      | false => rfl
      | true => exact (hj (Nat.eq_of_beq_eq_true e)).elim
    rw [hb, ho'] at this
    simp only [Bool.false_or, hd', Nat.beq_refl] at this
    cases this
  exact ⟨⟨noDup_ok h1, key gs gds ns hF, fun g hg => (full g hg).2.1, fun j o g hj hg hne => (full g hg).2.2 j o hj hne⟩, fun g hg => (full g hg).1⟩

section
variable {ops : Array Oper} {loud : Nat → Bool} {fr : Fr} {n : Nat} {E : Env} {k : K3}

theorem chkQ_ok {L : Array Bool} {i : Nat} (hn : n ≤ fr.n) (h : chkQ ops loud n fr.ks L i = true) {tm : Tm} {hp : Hp} {nx : Nat} : ∃ o, ops[i]? = some o ∧ dstOK o (absS fr tm hp nx) ∧ (∀ t, o.dst = some t → (absS fr tm hp nx).ks t = false) ∧ loud i = false ∧ Region.free .any ops L i = true ∧ i ∈ Region.ready .any ops L := by
  unfold chkQ at h
  split at h
  · rename_i o ho
    simp only [Bool.and_eq_true, Bool.not_eq_true'] at h
    obtain ⟨⟨⟨h1, h2⟩, h3⟩, h4⟩ := h
    obtain ⟨h5, h6⟩ := dstN_ok hn h1 (tm := tm) (hp := hp) (nx := nx)
    exact ⟨o, ho, h5, h6, h2, h3, by simpa using h4⟩
  · cases h

theorem gchain_sound (hns : Region.noSelect ops = true) (hn : n ≤ fr.n) (hf : E.forb = fr.forb) (hc : CallOK ρ P E.call) {gs : List Nat} {gds : List GD} {ns : List Nat} {B : Nat → Born} (hF : Fits ρ P ops B gs gds ns) (hG : GOK ops loud B gs) (hlt : ∀ g ∈ gs, (B g).d < n ∧ (B g).d < 255)
    {next : Ch} {f' : Nat} {L' : Array Bool} (hlast : Last ops L' gs) (hready : ∀ g ∈ gs, g ∈ Region.ready .any ops L')
    (hnext : ∀ (hs : HsT) (tm : Tm) (hp : Hp) (nx : Nat), HsIn ops hs → next.run E hs tm hp nx k = .ok → QA ρ P ops loud (KE fr E k) f' (listE L' gs) (hsem hs) (absS fr tm hp nx)) :
    ∀ (l : List Step) (f : Nat) (L : Array Bool) (hs : HsT) (tm : Tm) (hp : Hp) (nx : Nat), chkI ops loud n fr.ks gs f L l = some (f', L') → HsIn ops hs →
      (gchain P ops gds ns ⟨fun E hs tm hp nx k => chkK gds tm ns (adoptK gds ns tm hp nx fun tm hp nx => next.run E hs tm hp nx k)⟩ l).run E hs tm hp nx k = .ok → QAP ρ P ops loud (KE fr E k) B gs f L (hsem hs) (absS fr tm hp nx) := by
  have hR : ∀ (gs : List Nat) (gds : List GD) (ns : List Nat), Fits ρ P ops B gs gds ns → ∀ g ∈ gs, BornRep ρ (B g) := by
    intro gs
    induction gs with
    | nil => intro _ _ _ g hg; cases hg
    | cons x gs ih =>
      intro gds ns hF g hg
      cases gds with
      | nil => exact hF.elim
      | cons gd gds =>
        cases ns with
        | nil => exact hF.elim
        | cons m ns =>
          obtain ⟨⟨o, ho, q1, q2, hG⟩, hF⟩ := hF
          rcases List.mem_cons.mp hg with e | e
          · subst e; exact hG.rep
          · exact ih gds ns hF g e
  intro l
  induction l with
  | nil =>
    intro f L hs tm hp nx hk hin h
    have hk : some (f, L) = some (f', L') := by
      cases f <;> exact hk
    cases hk
    have h : chkK gds tm ns (adoptK gds ns tm hp nx fun tm hp nx => next.run E hs tm hp nx k) = .ok := h
    obtain ⟨h, hall⟩ := chkK_inv fr hp nx hF h
    have := adoptK_inv (fr := fr) gs hF h
    obtain ⟨tm', hp', nx', e, h⟩ := this
    refine qap_finish hG hlast hready (fun g hg => (hall g hg).1) (fun g hg => (hall g hg).2) (hR gs gds ns hF) (fun g hg => Nat.lt_of_lt_of_le (hlt g hg).1 hn) ?_
    rw [e]
    exact hnext hs tm' hp' nx' hin h
  | cons s l ih =>
    intro f L hs tm hp nx hk hin h
    cases f with
    | zero => cases hk
    | succ f =>
      cases s with
      | q i =>
        unfold chkI at hk
        split at hk
        · rename_i hq
          rw [Bool.and_eq_true, Bool.not_eq_true'] at hq
          obtain ⟨hq, hiG⟩ := hq
          obtain ⟨o, ho, h1, h2, h3, h4, h5⟩ := chkQ_ok (fr := fr) (tm := tm) (hp := hp) (nx := nx) hn hq
          obtain ⟨v, ids, tm', hv, e, h⟩ := stepD_q (ρ := ρ) ho h fr
          refine qap_take hG ho hns h3 (not_memN hiG) h4 h5 hv h1 h2 (QAP.more ?_)
          rw [e]
          exact ih f _ _ _ _ _ hk (hin.more (getElem?_lt ho) ids) h
        · cases hk
      | l u keep =>
        unfold chkI at hk
        split at hk
        · rename_i o ho
          split at hk
          · rename_i hq
            simp only [Bool.and_eq_true] at hq
            obtain ⟨⟨⟨⟨q1, q2⟩, q3⟩, q4⟩, q5⟩ := hq
            have h : chkK gds tm ns ((stepD P ops (.l u keep) (gchain P ops gds ns ⟨fun E hs tm hp nx k => chkK gds tm ns (adoptK gds ns tm hp nx fun tm hp nx => next.run E hs tm hp nx k)⟩ l)).run E hs tm hp nx k) = .ok := h
            obtain ⟨h, hall⟩ := chkK_inv fr hp nx hF h
            obtain ⟨hs', cs, h6, h7, hb⟩ := stepD_l (ρ := ρ) ho h hf hc (dstL_ok hn q1)
            refine qap_loud (C := inL cs) hG (by simpa using q3) (onlyB_ok q4) q2 (keepB_ok q5 hin h6) (cs_ok h7) (fun g hg => (hall g hg).1) (fun g hg => (hall g hg).2) (fun g hg => Nat.lt_of_lt_of_le (hlt g hg).1 hn) (hb.mono ?_)
            rintro σ ⟨tm', hp', nx', rfl, h⟩
            exact ih f _ _ _ _ _ hk (fun x hx => hin x (h7 x hx).2) h
          · cases hk
        · cases hk

theorem QA.less {K : Ex → St → Prop} {f : Nat} {L : Array Bool} {hs : List (Nat × CellP)} {σ : St} {g : Nat → V} (h : QA ρ P ops loud K f L hs { σ with tmps := g }) (hg : ∀ t, g t = σ.tmps t ∨ g t = .un) : QA ρ P ops loud K f L hs σ :=
  fun X T a w hh => h X T a w (hh.less g hg)

theorem closed_chkI {gs : List Nat} : ∀ {l : List Step} {f f' : Nat} {L L' : Array Bool} {ks : List Nat}, chkI ops loud n ks gs f L l = some (f', L') → Closed ops L → Closed ops L'
  | [], f, f', L, L', ks, h, hc => by
    have h : some (f, L) = some (f', L') := by cases f <;> exact h
    cases h
    exact hc
  | _ :: _, 0, _, _, _, _, h, _ => by cases h
  | .q i :: l, f + 1, f', L, L', ks, h, hc => by
    unfold chkI at h
    split at h
    · rename_i hq
      rw [Bool.and_eq_true] at hq
      have := hq.1
      unfold chkQ at this
      split at this
      · simp only [Bool.and_eq_true] at this
        exact closed_chkI h (hc.set (by simpa using this.2))
      · cases this
    · cases h
  | .l u keep :: l, f + 1, f', L, L', ks, h, hc => by
    unfold chkI at h
    split at h
    · split at h
      · rename_i hq
        simp only [Bool.and_eq_true] at hq
        exact closed_chkI h (hc.set (by simpa using hq.1.1.2))
      · cases h
    · cases h

theorem closed_listE {L : Array Bool} (hc : Closed ops L) : ∀ {gs : List Nat}, gs.Nodup → (∀ g ∈ gs, g ∈ Region.ready .any ops L) → Closed ops (listE L gs)
  | [], _, _ => hc
  | g :: gs, hnd, hr => by
    have hnd := List.nodup_cons.mp hnd
    exact (closed_listE hc hnd.2 fun x hx => hr x (List.mem_cons_of_mem _ hx)).set (ready_listE (hr g List.mem_cons_self) hnd.1)

theorem dchain_sound (hns : Region.noSelect ops = true) (hn : n ≤ fr.n) (hf : E.forb = fr.forb) (hc : CallOK ρ P E.call) :
    ∀ (l : List Plan) (f : Nat) (L : Array Bool) (hs : HsT) (tm : Tm) (hp : Hp) (nx : Nat), chk ops loud n fr.ks f L l = true → Closed ops L → HsIn ops hs → (dchain P ops l).run E hs tm hp nx k = .ok → QA ρ P ops loud (KE fr E k) f L (hsem hs) (absS fr tm hp nx) := by
  intro l
  induction l with
  | nil =>
    intro f L hs tm hp nx hk hcl _ h
    refine qa_done ?_ (nk_of h)
    have hk : (Region.ready .any ops L).isEmpty = true := by
      cases f <;> exact hk
    exact List.isEmpty_iff.mp hk
  | cons p l ih =>
    intro f L hs tm hp nx hk hcl hin h
    cases f with
    | zero => cases hk
    | succ f =>
      cases p with
      | s x =>
        cases x with
        | q i =>
          have hk : (chkQ ops loud n fr.ks L i && chk ops loud n fr.ks f (L.setIfInBounds i true) l) = true := hk
          rw [Bool.and_eq_true] at hk
          obtain ⟨o, ho, h1, h2, h3, h4, h5⟩ := chkQ_ok (fr := fr) (tm := tm) (hp := hp) (nx := nx) hn hk.1
          obtain ⟨v, ids, tm', hv, e, h⟩ := stepD_q (ρ := ρ) ho h fr
          refine qa_take ho hns h3 h4 h5 hcl hv h1 h2 (QA.more ?_)
          rw [e]
          exact ih f _ _ _ _ _ hk.2 (hcl.set h5) (hin.more (getElem?_lt ho) ids) h
        | l u keep =>
          have hk : (chkL ops loud n L u keep && chk ops loud n fr.ks f (L.setIfInBounds u true) l) = true := hk
          rw [Bool.and_eq_true] at hk
          obtain ⟨hk1, hk2⟩ := hk
          unfold chkL at hk1
          split at hk1
          · rename_i o ho
            simp only [Bool.and_eq_true] at hk1
            obtain ⟨⟨⟨q1, q2⟩, q3⟩, q4⟩ := hk1
            have hr : Region.ready .any ops L = [u] := by
              split at q3
              · rename_i v hv
                rw [hv, Nat.eq_of_beq_eq_true q3]
              · cases q3
            obtain ⟨hs', cs, h6, h7, hb⟩ := stepD_l (ρ := ρ) ho h hf hc (dstL_ok hn q1)
            refine qa_loud (C := inL cs) hr q2 (keepB_ok q4 hin h6) (cs_ok h7) (hb.mono ?_)
            rintro σ ⟨tm', hp', nx', rfl, h⟩
            exact ih f _ _ _ _ _ hk2 (hcl.set (by rw [hr]; exact List.mem_singleton.mpr rfl)) (fun x hx => hin x (h7 x hx).2) h
          · cases hk1
      | g gs inner =>
        unfold chk at hk
        simp only [Bool.and_eq_true] at hk
        obtain ⟨⟨⟨k1, k2⟩, k3⟩, k4⟩ := hk
        split at k4
        · rename_i f' L' hI
          simp only [Bool.and_eq_true] at k4
          obtain ⟨⟨k5, k6⟩, k7⟩ := k4
          have hnd := noDup_ok k1
          have hr : ∀ g ∈ gs, g ∈ Region.ready .any ops L' := fun g hg => by
            rw [List.all_eq_true] at k6
            simpa using k6 g hg
          have h : (stepP P ops (.g gs inner) (dchain P ops l)).run E hs tm hp nx k = .ok := h
          unfold stepP at h
          simp only at h
          split at h
          · rename_i gds hgds
            obtain ⟨ns, B, h, hF⟩ := sizesK_inv (ρ := ρ) fr hp nx hnd hgds h
            obtain ⟨tm', h, e1, e2⟩ := unsetK_inv h
            obtain ⟨hG, hlt⟩ := gok_ok k1 k2 hF
            have hcl' := closed_chkI hI hcl
            have hq := gchain_sound hns hn hf hc hF hG hlt (lastB_ok k5) hr (next := dchain P ops l) (fun hs tm hp nx hin h => ih f' _ hs tm hp nx k7 (closed_listE hcl' hnd hr) hin h) inner _ L hs tm' hp nx hI hin h
            have hq := qap_enter hq hcl
            rw [show f + 1 - gs.length + gs.length = f + 1 by have := Nat.le_of_ble_eq_true k3; omega] at hq
            refine QA.less (g := absT tm') ?_ e2
            have e : ({ absS fr tm hp nx with tmps := absT tm' } : St) = absS fr tm' hp nx := by
              unfold absS
              rw [e1]
            rw [e]
            exact hq
          · exact Ans.no h
        · cases k4
end

end Go.Proofs.YtjljgldgkkfckaaDoor.M
