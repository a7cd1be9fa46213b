/- Regions whose order is drawn, as the kernel runs them. -/
import Derived.Test.YtjljgldgkkfckaaDoorMEr
namespace Go.Proofs.YtjljgldgkkfckaaDoor.M
open Go Go.RowKit
set_option linter.unusedSimpArgs false
set_option linter.unusedVariables false

variable {ρ : Nat → Value} {P : Program}

/-! ### Objects of noughts -/

/-- What an operation makes that makes an object of noughts: the slot, whence its size, the object by its size, the value by size and number. -/
structure GD where
  d : Nat
  sz : Option (Operand × Operand × Nat)
  mo : Nat → KOb
  v : Nat → Nat → V

noncomputable def gdOf (P : Program) (o : Oper) : Option GD := match o.dst, o.guard with
  | some d, none => match o.op with
    | .alloc t => match tiOf P t with
      | some ti => match (ti.zero.map cv).all V.one with
        | true => some ⟨d, none, fun _ => .cell (ti.zero.map cv), fun _ id => .ptr id 0 0⟩
        | false => none
      | none => none
    | .makeSlice t x y => match elOf P t with
      | some el => match el.z.all V.one with
        | true => some ⟨d, some (x, y, el.eb), fun n => .a1 el.es n (N16.all el.z), fun n id => .sl id 0 n true⟩
        | false => none
      | none => none
    | _ => none
  | _, _ => none

/-- Is its size n? -/
def SizeIs (gd : GD) (n : Nat) (σ : St) : Prop := match gd.sz with
  | none => n = 0
  | some (x, y, eb) => n ≤ 16 ∧ n ≤ 9223372036854775807 ∧ eb * n ≤ 281474976710656 ∧ ∃ k k', evalV σ x = .int k (.ofNat n) ∧ evalV σ y = .int k' (.ofNat n)

noncomputable def szK (gd : GD) (tm : Tm) (k : Nat → Ans) : Ans := match gd.sz with
  | none => k 0
  | some (x, y, eb) => (opd x).get tm fun v => (opd y).get tm fun u => v.onInt fun _ m => onNat m fun m => u.onInt fun _ n => onNat n fun n => must (Nat.beq m n) (must (Nat.ble n 16) (must (Nat.ble n 9223372036854775807) (must (Nat.ble (Nat.mul eb n) 281474976710656) (k n))))
theorem szK_inv {gd : GD} {tm : Tm} {k : Nat → Ans} (h : szK gd tm k = .ok) (fr : Fr) (hp : Hp) (nx : Nat) : ∃ n, SizeIs gd n (absS fr tm hp nx) ∧ k n = .ok := by
  unfold szK at h
  unfold SizeIs
  split at h
  · exact ⟨0, rfl, h⟩
  · rename_i x y eb hz
    have h := opd_inv (k := fun u => _) (opd_inv (k := fun v => (opd y).get tm fun u => v.onInt fun _ m => onNat m fun m => u.onInt fun _ n => onNat n fun n => must (Nat.beq m n) (must (Nat.ble n 16) (must (Nat.ble n 9223372036854775807) (must (Nat.ble (Nat.mul eb n) 281474976710656) (k n))))) h fr hp nx) fr hp nx
    obtain ⟨k1, m', hx, h⟩ := V.onInt_inv h
    obtain ⟨m, hm, h⟩ := onNat_inv h
    obtain ⟨k2, n', hy, h⟩ := V.onInt_inv h
    obtain ⟨n, hn, h⟩ := onNat_inv h
    obtain ⟨h1, h⟩ := must_inv h
    obtain ⟨h2, h⟩ := must_inv h
    obtain ⟨h3, h⟩ := must_inv h
    obtain ⟨h4, h9⟩ := must_inv h
    have h1 := Nat.eq_of_beq_eq_true h1
    subst hm hn h1
    exact ⟨m, ⟨Nat.le_of_ble_eq_true h2, Nat.le_of_ble_eq_true h3, Nat.le_of_ble_eq_true h4, k1, k2, hx, hy⟩, h9⟩

/-- What is known of an object that is made ahead. -/
structure Good (ρ : Nat → Value) (P : Program) (o : Oper) (gd : GD) (n : Nat) (B : Born) : Prop where
  d : B.d = gd.d
  ob : absK (gd.mo n) = some B.ob
  v : B.v = gd.v n
  rep : BornRep ρ B
  ok : ∀ σ, SizeIs gd n σ → BornOK ρ P σ o B

theorem good_of {o : Oper} {gd : GD} (h : gdOf P o = some gd) {n : Nat} {σ : St} (hsz : SizeIs gd n σ) : o.dst = some gd.d ∧ o.guard = none ∧ ∃ B, Good ρ P o gd n B := by
  unfold gdOf at h
  split at h
  · rename_i d hd hg
    split at h
    · rename_i t ho
      split at h
      · rename_i ti hti
        split at h
        · rename_i hone
          cases h
          refine ⟨hd, hg, ?_⟩
          have ht := tiOf_ok hti
          obtain ⟨z, hz1, hz2⟩ := ht.zeroValue
          refine ⟨⟨d, fun b => .pointer (some ⟨b, 0, none⟩), z.cells, t, boxOb (ti.zero.map cv), fun id => .ptr id 0 0⟩, rfl, rfl, rfl, ⟨fun r row hr => ?_, fun w L T k b hT _ => ?_⟩, fun σ _ X T a w hh w' => by simp [execOp, ho, Instr.alloc, newVar, newRow, more, hz2]⟩
          · cases r with
            | succ r => cases hr
            | zero =>
              simp only [boxOb, Option.some.injEq] at hr
              subst hr
              refine ⟨rfl, fun p hp => List.all_eq_true.mp hone p hp, fun c p hp => ?_⟩
              rw [List.getElem?_map, ← hz1] at hp
              simp only [Option.map_eq_some_iff] at hp
              obtain ⟨v, hv, rfl⟩ := hp
              exact ⟨v, by simpa using hv, fun w L T => rep_cv _ _ _ v⟩
          · have := Rep.ptr (ρ := ρ) (w := w) (L := L) (T := T) k 0 0 _ hT
            simpa using this
        · cases h
      · cases h
    · rename_i t x y ho
      split at h
      · rename_i el hel
        split at h
        · rename_i hone
          cases h
          refine ⟨hd, hg, ?_⟩
          obtain ⟨h1, h2, _, te, hte, hz⟩ := elOf_ok hel
          obtain ⟨hu, i, z, hi, g1, g2, hz', hzs⟩ := h1
          obtain ⟨s1, s2, s3, _⟩ := hsz
          have hzz : z.cells.toList.map cv = el.z := by
            have := hte.zero
            rw [hi, Option.map_some, hz'] at this
            have : z.cells.toList = te.zero := by simpa using this
            rw [this, hz]
          refine ⟨⟨d, fun b => .slice (some ⟨b, 0, none⟩) n n, (Array.range (n * el.es)).map (fun j => z.cells[j % z.cells.size]!), el.e, zeroOb el.es n el.z, fun id => .sl id 0 n true⟩, rfl, ?_, rfl, ⟨fun r row hr => ?_, fun w L T k b hT hb => ?_⟩, fun σ hs X T a w hh w' => ?_⟩
          · show some (⟨el.es, fun r => if r < n then (if r < 16 then some ((N16.all el.z).get r) else none) else none⟩ : Ob) = some ⟨el.es, fun r => if r < n then some el.z else none⟩
            congr 2
            funext r
            by_cases e : r < n
            · rw [if_pos e, if_pos e, if_pos (by omega), N16.get_all]
            · rw [if_neg e, if_neg e]
          · rw [← hzz] at hone
            have hr' : (zeroOb el.es n (z.cells.toList.map cv)).row r = some row := by rw [hzz]; exact hr
            have hw : ∀ (w : World) (L : Nat → Prop) (T : Tab), _ := fun w L T => zero_cells (ρ := ρ) (w := w) (L := L) (T := T) z.cells el.es n n hzs h2 (Nat.le_refl _) hone r row hr'
            obtain ⟨k1, k2, _⟩ := hw default (fun _ => False) (fun _ => none)
            refine ⟨k1, k2, fun c q hq => ?_⟩
            obtain ⟨v, k3, _⟩ := (hw default (fun _ => False) (fun _ => none)).2.2 c q hq
            refine ⟨v, k3, fun w L T => ?_⟩
            obtain ⟨v', k4, k5⟩ := (hw w L T).2.2 c q hq
            rw [k3] at k4
            cases k4
            exact k5
          · exact .sl k 0 n true ⟨b, 0, el.es⟩ 0 n hT (.inr (by simp)) (Nat.le_refl _) (fun _ => rfl) ⟨_, _, _, hb, by simp⟩
          · obtain ⟨_, q1, q2, k, k', hx, hy⟩ := hs
            have e1 := rep_int (ev_rep hh hx)
            have e2 := rep_int (ev_rep hh hy)
            have := run_make (P := P) (eb := el.eb) (es := el.es) ho hu hi hz' q1 (by rw [g2]; exact q2) a w' e1 e2 (by rw [g1]; exact h2) (by rw [g1]; exact hzs)
            rw [g1] at this
            exact this
        · cases h
      · cases h
    · cases h
  · cases h

/-! ### A group -/

noncomputable def sizesK (gds : List GD) (tm : Tm) : (List Nat → Ans) → Ans :=
  List.rec (motive := fun _ => (List Nat → Ans) → Ans) (fun k => k []) (fun gd _ ih k => szK gd tm fun n => ih fun l => k (n :: l)) gds
noncomputable def unsetK (gds : List GD) : Tm → (Tm → Ans) → Ans :=
  List.rec (motive := fun _ => Tm → (Tm → Ans) → Ans) (fun tm k => k tm) (fun gd _ ih tm k => (updD (some gd.d)).run tm .un fun tm' => ih tm' k) gds
noncomputable def chkK (gds : List GD) (tm : Tm) : List Nat → Ans → Ans :=
  List.rec (motive := fun _ => List Nat → Ans → Ans) (fun ns y => List.rec (motive := fun _ => AnsT) y (fun _ _ _ => .err 150) ns) (fun gd _ ih ns y => List.rec (motive := fun _ => AnsT) (.err 151) (fun n r _ => (opd (.tmp gd.d)).get tm fun v => v.onUn (szK gd tm fun m => must (Nat.beq m n) (ih r y))) ns) gds
noncomputable def adoptK (gds : List GD) : List Nat → Tm → Hp → Nat → K3 → Ans :=
  List.rec (motive := fun _ => List Nat → Tm → Hp → Nat → K3 → Ans) (fun ns tm hp nx k => k tm hp nx) (fun gd _ ih ns tm hp nx k => List.rec (motive := fun _ => AnsT) (.err 152) (fun n r _ => newK (some gd.d) (gd.mo n) (gd.v n nx) tm hp nx fun tm hp nx => ih r tm hp nx k) ns) gds

/-- All that is known of a group. -/
def Fits (ρ : Nat → Value) (P : Program) (ops : Array Oper) (B : Nat → Born) : List Nat → List GD → List Nat → Prop
  | [], [], [] => True
  | g :: gs, gd :: gds, n :: ns => (∃ o, ops[g]? = some o ∧ o.dst = some gd.d ∧ o.guard = none ∧ Good ρ P o gd n (B g)) ∧ Fits ρ P ops B gs gds ns
  | _, _, _ => False

noncomputable def gdsOf (P : Program) (ops : Array Oper) : List Nat → Option (List GD)
  | [] => some []
  | g :: gs => match ops[g]? with
    | some o => match gdOf P o, gdsOf P ops gs with
      | some gd, some gds => some (gd :: gds)
      | _, _ => none
    | none => none

theorem Fits.congr {ops : Array Oper} {B B' : Nat → Born} : ∀ {gs : List Nat} {gds : List GD} {ns : List Nat}, (∀ g ∈ gs, B g = B' g) → Fits ρ P ops B gs gds ns → Fits ρ P ops B' gs gds ns
  | [], [], [], _, h => h
  | g :: gs, gd :: gds, n :: ns, he, ⟨h1, h2⟩ => ⟨by rw [← he g List.mem_cons_self]; exact h1, h2.congr fun x hx => he x (List.mem_cons_of_mem _ hx)⟩

theorem sizesK_inv {ops : Array Oper} (fr : Fr) {tm : Tm} (hp : Hp) (nx : Nat) : ∀ {gs : List Nat} {gds : List GD} {k : List Nat → Ans}, gs.Nodup → gdsOf P ops gs = some gds → sizesK gds tm k = .ok → ∃ ns B, k ns = .ok ∧ Fits ρ P ops B gs gds ns
  | [], gds, k, _, hg, h => by
    cases hg
    exact ⟨[], fun _ => ⟨0, fun _ => undef, #[], 0, default, fun _ => .un⟩, h, trivial⟩
  | g :: gs, gds, k, hnd, hg, h => by
    unfold gdsOf at hg
    split at hg
    · rename_i o ho
      split at hg
      · rename_i gd gds' h1 h2
        cases hg
        obtain ⟨n, hn, h⟩ := szK_inv (k := fun n => sizesK gds' tm fun l => k (n :: l)) h fr hp nx
        have hnd' := List.nodup_cons.mp hnd
        obtain ⟨ns, B, h, hF⟩ := sizesK_inv fr hp nx (k := fun l => k (n :: l)) hnd'.2 h2 h
        obtain ⟨e1, e2, Bg, hB⟩ := good_of (ρ := ρ) h1 hn
        refine ⟨n :: ns, fun x => if x = g then Bg else B x, h, ⟨o, ho, e1, e2, by show Good ρ P o gd n (if g = g then Bg else B g); rw [if_pos rfl]; exact hB⟩, hF.congr fun x hx => ?_⟩
        show B x = if x = g then Bg else B x
        rw [if_neg]
        intro e
        subst e
        exact hnd'.1 hx
      · cases hg
    · cases hg

theorem unsetK_inv : ∀ {gds : List GD} {tm : Tm} {k : Tm → Ans}, unsetK gds tm k = .ok → ∃ tm', k tm' = .ok ∧ absD tm' = absD tm ∧ ∀ t, absT tm' t = absT tm t ∨ absT tm' t = .un
  | [], tm, k, h => ⟨tm, h, rfl, fun t => .inl rfl⟩
  | gd :: gds, tm, k, h => by
    obtain ⟨tm1, h, h1⟩ := updD_inv h
    obtain ⟨tm', h, h2, h3⟩ := unsetK_inv (gds := gds) h
    have e := h1 ⟨0, [], []⟩ (N16.all (N16.all (N16.all (N16.all .no)))) 0
    have eT : absT tm1 = fun u => if u = gd.d then .un else absT tm u := (congrArg St.tmps e).symm
    have eD : absD tm1 = absD tm := (congrArg St.defs e).symm
    refine ⟨tm', h, h2.trans eD, fun t => ?_⟩
    rcases h3 t with g | g
    · by_cases e : t = gd.d
      · right
        rw [g, eT]
        simp [e]
      · left
        rw [g, eT]
        simp [e]
    · exact .inr g

theorem chkK_inv {ops : Array Oper} {B : Nat → Born} (fr : Fr) {tm : Tm} (hp : Hp) (nx : Nat) {y : Ans} : ∀ {gs : List Nat} {gds : List GD} {ns : List Nat}, Fits ρ P ops B gs gds ns → chkK gds tm ns y = .ok →
    y = .ok ∧ ∀ g ∈ gs, (absS fr tm hp nx).tmps (B g).d = .un ∧ ∀ o, ops[g]? = some o → BornOK ρ P (absS fr tm hp nx) o (B g)
  | [], [], [], _, h => ⟨h, by simp⟩
  | g :: gs, gd :: gds, n :: ns, ⟨⟨o, ho, h1, h2, hG⟩, hF⟩, h => by
    have h := opd_inv (x := .tmp gd.d) (k := fun v => v.onUn (szK gd tm fun m => must (Nat.beq m n) (chkK gds tm ns y))) h fr hp nx
    rcases V.onUn_inv h with ⟨hu, h⟩
    obtain ⟨m, hm, h⟩ := szK_inv h fr hp nx
    obtain ⟨e, h9⟩ := must_inv h
    have e := Nat.eq_of_beq_eq_true e
    subst e
    obtain ⟨hy, hall⟩ := chkK_inv fr hp nx hF h9
    refine ⟨hy, fun x hx => ?_⟩
    rcases List.mem_cons.mp hx with q | q
    · subst q
      refine ⟨by rw [hG.d]; exact hu, fun o' ho' => ?_⟩
      rw [ho] at ho'
      cases ho'
      exact hG.ok _ hm
    · exact hall x q

theorem adoptK_inv {ops : Array Oper} {B : Nat → Born} {fr : Fr} {k : K3} (gs : List Nat) : ∀ {gds : List GD} {ns : List Nat} {tm : Tm} {hp : Hp} {nx : Nat}, Fits ρ P ops B gs gds ns → adoptK gds ns tm hp nx k = .ok → NK fr k (adoptAll B (absS fr tm hp nx) gs) := by
  induction gs with
  | nil =>
    intro gds ns tm hp nx hF h
    cases gds with
    | nil => exact nk_of h
    | cons _ _ => exact hF.elim
  | cons g gs ih =>
    intro gds ns tm hp nx hF h
    cases gds with
    | nil => exact hF.elim
    | cons gd gds =>
      cases ns with
      | nil => exact hF.elim
      | cons n ns =>
        obtain ⟨⟨o, ho, h1, h2, hG⟩, hF⟩ := hF
        have h : newK (some gd.d) (gd.mo n) (gd.v n nx) tm hp nx (fun tm hp nx => adoptK gds ns tm hp nx k) = .ok := h
        obtain ⟨tm', hp', nx', e, h⟩ := newK_inv h fr
        have := ih (tm := tm') (hp := hp') (nx := nx') hF h
        rw [← e, hG.ob] at this
        unfold adoptAll
        rw [hG.d, hG.v]
        exact this

end Go.Proofs.YtjljgldgkkfckaaDoor.M
