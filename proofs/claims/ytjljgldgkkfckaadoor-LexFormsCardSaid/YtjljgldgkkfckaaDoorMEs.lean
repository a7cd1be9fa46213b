/- Stores, append, calls, as the kernel runs them; which is which. -/
import Derived.Test.YtjljgldgkkfckaaDoorMEl
import Derived.Test.YtjljgldgkkfckaaDoorMBytes
namespace Go.Proofs.YtjljgldgkkfckaaDoor.M
open Go Go.RowKit
set_option linter.unusedSimpArgs false
set_option linter.unusedVariables false

variable {ρ : Nat → Value} {P : Program}

/-! ### Stores -/

noncomputable def KOb.setRowK (ob : KOb) (r : Nat) (row' : List V) (k : KOb → Ans) : Ans :=
  KOb.rec (motive := fun _ => AnsT) (.err 50) (fun _ => Nat.rec (motive := fun _ => AnsT) (k (.cell row')) (fun _ _ => .err 51) r) (fun s n t => (acc (List V) r).upd t row' fun t' => k (.a1 s n t')) (fun s n t => (acc3 (List V) r).upd t row' fun t' => k (.a3 s n t')) (fun s rows => k (.ls s (rows.set r row'))) ob

theorem KOb.setRowK_inv {ob : KOb} {r : Nat} {row row' : List V} {k : KOb → Ans} {x : Ob} (hx : absK ob = some x) (hr : x.row r = some row) (hl : row'.length = row.length) (h : ob.setRowK r row' k = .ok) : ∃ ob', absK ob' = some (setRow x r row') ∧ k ob' = .ok := by
  cases ob with
  | no => exact Ans.no h
  | cell row0 =>
    cases r with
    | zero =>
      cases hx
      have hr : some row0 = some row := hr
      cases hr
      refine ⟨_, ?_, h⟩
      show some (boxOb row') = _
      unfold boxOb setRow
      simp only [hl]
      congr 2
      funext j
      cases j with
      | zero => rfl
      | succ j => rfl
    | succ r => exact Ans.no h
  | a1 s n t =>
    cases hx
    obtain ⟨h1, h⟩ := acc_upd h
    refine ⟨_, ?_, h⟩
    have hr : (if r < n then (if r < 16 then some (t.get r) else none) else none) = some row := hr
    have hn : r < n := by
      by_cases e : r < n
      · exact e
      · rw [if_neg e] at hr; cases hr
    show some (⟨s, fun j => if j < n then (if j < 16 then some ((t.put r row').get j) else none) else none⟩ : Ob) = some ⟨s, fun j => if j = r then some row' else if j < n then (if j < 16 then some (t.get j) else none) else none⟩
    congr 2
    funext j
    by_cases e : j < 16
    · rw [N16.get_put _ _ _ _ h1 e]
      by_cases e2 : j = r
      · subst e2
        rw [if_pos hn, if_pos e, if_pos rfl, if_pos rfl]
      · rw [if_neg e2, if_neg e2]
    · rw [if_neg (by omega : ¬ j = r), if_neg e, if_neg e]
  | a3 s n t =>
    cases hx
    obtain ⟨h1, h⟩ := acc3_upd h
    refine ⟨_, ?_, h⟩
    have hr : (if r < n then (if r < 4096 then some (get3 t r) else none) else none) = some row := hr
    have hn : r < n := by
      by_cases e : r < n
      · exact e
      · rw [if_neg e] at hr; cases hr
    show some (⟨s, fun j => if j < n then (if j < 4096 then some (get3 (put3 t r row') j) else none) else none⟩ : Ob) = some ⟨s, fun j => if j = r then some row' else if j < n then (if j < 4096 then some (get3 t j) else none) else none⟩
    congr 2
    funext j
    by_cases e : j < 4096
    · rw [get_put3 _ _ _ _ h1 e]
      by_cases e2 : j = r
      · subst e2
        rw [if_pos hn, if_pos e, if_pos rfl, if_pos rfl]
      · rw [if_neg e2, if_neg e2]
    · rw [if_neg (by omega : ¬ j = r), if_neg e, if_neg e]
  | ls s rows =>
    cases hx
    refine ⟨_, ?_, h⟩
    have hr : rows[r]? = some row := hr
    show some (⟨s, fun j => (rows.set r row')[j]?⟩ : Ob) = some ⟨s, fun j => if j = r then some row' else rows[j]?⟩
    congr 2
    funext j
    rw [List.getElem?_set]
    by_cases e : j = r
    · subst e
      rw [if_pos rfl, if_pos rfl, if_pos (lt_of_get hr)]
    · rw [if_neg (fun g => e g.symm), if_neg e]

noncomputable def lStore (P : Program) (t : TypeId) (x y : Operand) : LOp := match tiOf P t with
  | some ti => match Nat.ble 1 ti.size with
    | true => ⟨fun E cs tm hp nx k => (opd x).get tm fun v => (opd y).get tm fun u => v.onPtr fun j r c => u.onCells fun l => lenIs ti.size l (allOne l (clearK j r c ti.size E.forb (clearK j r c ti.size cs
        ((acc4 KOb j).get hp fun ob => ob.row r fun row => (spl c).run row l fun row' => ob.setRowK r row' fun ob' => (acc4 KOb j).upd hp ob' fun hp' => k tm hp' nx))))⟩
    | false => lbad 137
  | none => lbad 138
theorem lStore_spec {o : Oper} {t : TypeId} {x y : Operand} (ho : o.op = .store t x y) (hdst : o.dst = none) : LSpec ρ P o (lStore P t x y) := by
  unfold lStore
  split
  · rename_i ti hti
    split
    · rename_i h0
      intro fr E cs tm hp nx k kn hf hc hd h
      have h := opd_inv (k := fun u => _) (opd_inv (k := fun v => (opd y).get tm fun u => v.onPtr fun j r c => u.onCells fun l => lenIs ti.size l (allOne l (clearK j r c ti.size E.forb (clearK j r c ti.size cs
        ((acc4 KOb j).get hp fun ob => ob.row r fun row => (spl c).run row l fun row' => ob.setRowK r row' fun ob' => (acc4 KOb j).upd hp ob' fun hp' => k tm hp' nx))))) h fr hp nx) fr hp nx
      obtain ⟨j, r, c, hx, h⟩ := V.onPtr_inv h
      rw [V.onCells_eq] at h
      obtain ⟨h1, h⟩ := lenIs_inv h
      obtain ⟨h2, h⟩ := allOne_inv h
      obtain ⟨h3, h⟩ := clearK_inv h
      obtain ⟨h4, h⟩ := clearK_inv h
      obtain ⟨ob, h5, h⟩ := ob_inv h
      obtain ⟨z, row, h6, h7, h⟩ := KOb.row_inv h
      obtain ⟨h8, h⟩ := spl_inv h
      obtain ⟨ob', h9, h⟩ := KOb.setRowK_inv h6 h7 (splice_length _ _ _) h
      obtain ⟨g1, h⟩ := acc4_upd h
      have g0 := Nat.le_of_ble_eq_true h0
      refine qo_store ho hdst hx rfl h2 (tiOf_ok hti) h1.symm (by omega) (h5.trans h6) h7 h8 (by rw [hf, ← h1] at h3; exact h3) (by rw [← h1] at h4; exact h4) ⟨tm, put4 hp j ob', nx, ?_, h⟩
      unfold absS
      rw [absO_put g1, h9]
      rfl
    · exact lspec_bad
  · exact lspec_bad

/-! ### Append -/

/-- Rows as an object: in a tree, or as a list (for proofs with unknowns). -/
noncomputable def startK (lm : Bool) (es : Nat) (l : List (List V)) (n : Nat) (k : KOb → Ans) : Ans := boolK lm (k (.ls es l)) (ofRows es l n k)
theorem startK_inv {lm : Bool} {es n : Nat} {l : List (List V)} {k : KOb → Ans} (hn : l.length = n) (h : startK lm es l n k = .ok) : ∃ ob, k ob = .ok ∧ absK ob = some (rowsOb es l) := by
  rcases boolK_inv h with ⟨_, h⟩ | ⟨_, h⟩
  · exact ⟨_, h, rfl⟩
  · exact ofRows_inv hn h

noncomputable def rowsK (ob : KOb) (l : Nat) : Nat → (List (List V) → Ans) → Ans :=
  Nat.rec (motive := fun _ => Nat → (List (List V) → Ans) → Ans) (fun _ k => k []) (fun _ ih off k => ob.row off fun row => forceN (Nat.succ off) fun off' => ih off' fun rows => k (row :: rows)) l
theorem rowsK_inv {ob : KOb} {x : Ob} (hx : absK ob = some x) : ∀ {l off : Nat} {k : List (List V) → Ans}, rowsK ob l off k = .ok → ∃ rows, rows.length = l ∧ (∀ r, r < l → x.row (off + r) = rows[r]?) ∧ k rows = .ok
  | 0, off, k, h => ⟨[], rfl, fun r hr => by omega, h⟩
  | l + 1, off, k, h => by
    have h : (ob.row off fun row => forceN (Nat.succ off) fun off' => rowsK ob l off' fun rows => k (row :: rows)) = .ok := h
    obtain ⟨y, row, h1, h2, h⟩ := KOb.row_inv h
    rw [hx] at h1
    cases h1
    rw [forceN_eq] at h
    obtain ⟨rows, h3, h4, h⟩ := rowsK_inv hx h
    refine ⟨row :: rows, by simp [h3], fun r hr => ?_, h⟩
    cases r with
    | zero => simpa using h2
    | succ r =>
      have := h4 r (by omega)
      rw [show off + (r + 1) = Nat.succ off + r by omega, this]
      simp

noncomputable def srcK (es : Nat) (v : V) (hp : Hp) (f : Nat → List (List V) → Ans) : Ans :=
  v.onNilS (fun j off len _ => (acc4 KOb j).get hp fun ob => ob.ofS es (rowsK ob len off fun l => f len l)) (fun s rows => must (Nat.beq s es) (forceN rows.length fun n => f n rows)) (fun w => must (isNilSl w) (f 0 []))

theorem srcK_inv {es : Nat} {v : V} {hp : Hp} {f : Nat → List (List V) → Ans} (h : srcK es v hp f = .ok) (fr : Fr) (tm : Tm) (nx : Nat) :
    ∃ m l g, srcOf (absS fr tm hp nx) es v = some (m, g) ∧ l.length = m ∧ (∀ r, r < m → g r = l[r]?) ∧ f m l = .ok := by
  rcases V.onNilS_inv h with ⟨j, off, len, full, rfl, h9⟩ | ⟨s, rows, rfl, h9⟩ | ⟨w, rfl, h9⟩
  · obtain ⟨ob, h1, h9⟩ := ob_inv h9
    obtain ⟨⟨x, h2, h3⟩, h9⟩ := KOb.ofS_inv h9
    obtain ⟨rows, h4, h5, h9⟩ := rowsK_inv h2 h9
    refine ⟨len, rows, fun r => x.row (off + r), ?_, h4, h5, h9⟩
    have : (absS fr tm hp nx).objs j = some x := h1.trans h2
    unfold srcOf
    simp only [this]
    rw [h3, Nat.beq_refl]
  · obtain ⟨h1, h9⟩ := must_inv h9
    rw [forceN_eq] at h9
    refine ⟨rows.length, rows, fun r => rows[r]?, ?_, rfl, fun r _ => rfl, h9⟩
    unfold srcOf
    simp only [h1]
  · obtain ⟨h1, h9⟩ := must_inv h9
    have hw := isNilSl_ok h1
    subst hw
    exact ⟨0, [], fun _ => none, rfl, rfl, fun r hr => by omega, h9⟩

/-- The rows of an object from off on, as an object. -/
noncomputable def baseK (ob : KOb) (es off len : Nat) (k : KOb → Ans) : Ans := Nat.rec (motive := fun _ => AnsT) (k ob) (fun _ _ => rowsK ob len off fun l => ofRows es l len k) off
theorem baseK_inv {ob : KOb} {es off len : Nat} {k : KOb → Ans} {x : Ob} (hx : absK ob = some x) (h : baseK ob es off len k = .ok) : ∃ ob1, k ob1 = .ok ∧ ∀ x1, absK ob1 = some x1 → ∀ r, r < len → x1.row r = x.row (off + r) := by
  cases off with
  | zero =>
    refine ⟨ob, h, fun x1 h1 r _ => ?_⟩
    rw [hx] at h1
    cases h1
    rw [Nat.zero_add]
  | succ n =>
    obtain ⟨l, h1, h2, h⟩ := rowsK_inv hx (l := len) (off := n + 1) h
    obtain ⟨ob1, h, h3⟩ := ofRows_inv h1 h
    refine ⟨ob1, h, fun x1 h4 r hr => ?_⟩
    rw [h3] at h4
    cases h4
    exact (h2 r hr).symm

theorem appRow_eq {len m : Nat} {a b : Nat → Option (List V)} {f g : Nat → Option (List V)} (h1 : ∀ r, r < len → a r = b r) (h2 : ∀ r, r < m → f r = g r) : appRow len a f m = appRow len b g m := by
  funext r
  unfold appRow
  by_cases e : r < len
  · rw [if_pos e, if_pos e, h1 r e]
  · rw [if_neg e, if_neg e]
    by_cases e2 : r < len + m
    · rw [if_pos e2, if_pos e2, h2 _ (by omega)]
    · rw [if_neg e2, if_neg e2]

noncomputable def lAppend (P : Program) (d : Option Tmp) (t tx : TypeId) (s x : Operand) : LOp := match elOf P t, P.underlying tx with
  | some el, some (.slice _) => ⟨fun E cs tm hp nx k => (opd s).get tm fun sv => (opd x).get tm fun xv => srcK el.es xv hp fun m l =>
      boolK (Nat.ble 1 m)
        (sv.onSl (fun j off len full => forceN (Nat.add len m) fun n => must (Nat.ble n 9223372036854775807) (must (Nat.ble (Nat.mul n el.eb) 140737488355328)
            ((acc4 KOb j).get hp fun ob => ob.ofS el.es (baseK ob el.es off len fun ob1 => joinK ob1 el.es len l m fun ob' =>
              boolK full (newK d ob' (.sl nx 0 n false) tm hp nx k) (noneK j E.forb (noneK j cs ((acc4 KOb j).upd hp .no fun hp' => newK d ob' (.sl nx 0 n false) tm hp' nx k)))))))
          (fun w => must (isNilSl w) (must (Nat.ble m 9223372036854775807) (must (Nat.ble (Nat.mul m el.eb) 281474976710656) (startK E.lm el.es l m fun ob => newK d ob (.sl nx 0 m false) tm hp nx k)))))
        (sv.onSl (fun _ _ _ _ => (updD d).run tm sv fun tm' => k tm' hp nx) (fun w => must (isNilSl w) ((updD d).run tm sv fun tm' => k tm' hp nx)))⟩
  | _, _ => lbad 139

theorem lAppend_spec {o : Oper} {t tx : TypeId} {s x : Operand} (ho : isAppend o s x t tx) : LSpec ρ P o (lAppend P o.dst t tx s x) := by
  unfold lAppend
  split
  · rename_i el e' hel htx
    obtain ⟨he1, he2, _, _⟩ := elOf_ok hel
    intro fr E cs tm hp nx k kn hf hc hd h
    have h := opd_inv (k := fun xv => _) (opd_inv (k := fun sv => (opd x).get tm fun xv => srcK el.es xv hp fun m l =>
      boolK (Nat.ble 1 m)
        (sv.onSl (fun j off len full => forceN (Nat.add len m) fun n => must (Nat.ble n 9223372036854775807) (must (Nat.ble (Nat.mul n el.eb) 140737488355328)
            ((acc4 KOb j).get hp fun ob => ob.ofS el.es (baseK ob el.es off len fun ob1 => joinK ob1 el.es len l m fun ob' =>
              boolK full (newK o.dst ob' (.sl nx 0 n false) tm hp nx k) (noneK j E.forb (noneK j cs ((acc4 KOb j).upd hp .no fun hp' => newK o.dst ob' (.sl nx 0 n false) tm hp' nx k)))))))
          (fun w => must (isNilSl w) (must (Nat.ble m 9223372036854775807) (must (Nat.ble (Nat.mul m el.eb) 281474976710656) (startK E.lm el.es l m fun ob => newK o.dst ob (.sl nx 0 m false) tm hp nx k)))))
        (sv.onSl (fun _ _ _ _ => (updD o.dst).run tm sv fun tm' => k tm' hp nx) (fun w => must (isNilSl w) ((updD o.dst).run tm sv fun tm' => k tm' hp nx)))) h fr hp nx) fr hp nx
    obtain ⟨m, l, g, hsrc, hl, hg, h⟩ := srcK_inv h fr tm nx
    have hsome : ∀ r, r < m → (g r).isSome = true := fun r hr => by rw [hg r hr, List.getElem?_eq_getElem (by omega)]; rfl
    rcases boolK_inv h with ⟨hm, h⟩ | ⟨hm, h⟩
    · have hm := Nat.le_of_ble_eq_true hm
      rcases V.onSl_inv h with ⟨j, off, len, full, hs, h⟩ | ⟨w, hs, h⟩
      · rw [forceN_eq] at h
        obtain ⟨h1, h⟩ := must_inv h
        obtain ⟨h2, h⟩ := must_inv h
        obtain ⟨ob, h3, h⟩ := ob_inv h
        obtain ⟨⟨y, h4, h5⟩, h⟩ := KOb.ofS_inv h
        obtain ⟨ob1, h, h6⟩ := baseK_inv h4 h
        obtain ⟨x1, ob', h7, h, h8⟩ := joinK_inv hl h
        have e8 : (⟨el.es, appRow len x1.row (fun r => l[r]?) m⟩ : Ob) = ⟨el.es, appRow len (fun r => y.row (off + r)) g m⟩ := by
          congr 1
          exact appRow_eq (h6 x1 h7) fun r hr => (hg r hr).symm
        rw [e8] at h8
        have h1 : len + m ≤ 9223372036854775807 := Nat.le_of_ble_eq_true h1
        have h2 : (len + m) * el.eb ≤ 140737488355328 := Nat.le_of_ble_eq_true h2
        rcases boolK_inv h with ⟨rfl, h⟩ | ⟨rfl, h⟩
        · have := newK_inv h fr
          rw [h8] at this
          exact qo_append_full ho hs (h3.trans h4) h5 hsrc hsome he1 htx he2 hm h1 h2 hd this
        · obtain ⟨g1, h⟩ := noneK_inv h
          obtain ⟨g2, h⟩ := noneK_inv h
          obtain ⟨g3, h⟩ := acc4_upd h
          have := newK_inv h fr
          rw [h8, absO_put g3] at this
          exact qo_append ho hs (h3.trans h4) h5 hsrc hsome he1 htx he2 hm h1 h2 (by rw [hf] at g1; exact g1) g2 hd this
      · obtain ⟨h1, h⟩ := must_inv h
        obtain ⟨h2, h⟩ := must_inv h
        obtain ⟨h3, h⟩ := must_inv h
        obtain ⟨ob, h9, h4⟩ := startK_inv hl h
        have hw := isNilSl_ok h1
        subst hw
        have := newK_inv h9 fr
        have e4 : rowsOb el.es l = ⟨el.es, appRow 0 (fun _ => none) g m⟩ := by
          unfold rowsOb
          congr 1
          funext r
          unfold appRow
          rw [if_neg (by omega)]
          by_cases e : r < 0 + m
          · rw [if_pos e, hg _ (by omega)]
            rfl
          · rw [if_neg e, List.getElem?_eq_none (by omega)]
        rw [h4, e4] at this
        exact qo_append_nil ho hs hsrc hsome he1 htx he2 hm (Nat.le_of_ble_eq_true h2) (Nat.le_of_ble_eq_true h3) hd this
    · have hm : m = 0 := by have := ble_false hm; omega
      subst hm
      have fin : ∀ (p : V), evalV (absS fr tm hp nx) s = p → p.appB = true → ((updD o.dst).run tm p fun tm' => k tm' hp nx) = .ok → QO ρ P (inL cs) o (absS fr tm hp nx) (NK fr k) (KE fr E kn) := by
        intro p hp1 hp2 h
        obtain ⟨tm', h, h2⟩ := updD_inv h
        refine qo_quiet (qq_append_none ho hp1 hp2 hsrc he1 htx he2) hd ?_
        rw [h2]
        exact nk_of h
      rcases V.onSl_inv h with ⟨j, off, len, full, hs, h⟩ | ⟨w, hs, h⟩
      · exact fin _ rfl (by rw [hs]; rfl) h
      · obtain ⟨h1, h9⟩ := must_inv h
        have hw := isNilSl_ok h1
        subst hw
        exact fin _ rfl (by rw [hs]; rfl) h9
  · exact lspec_bad

/-! ### Calls -/

def fnOK (P : Program) (f : FuncId) : Bool := match P.funcs[f]? with
  | some fn => !fn.body.isNone && !(fn.name == "runtime.NumGoroutine")
  | none => false
theorem fnOK_ok {f : FuncId} (h : fnOK P f = true) : ∃ fn, P.funcs[f]? = some fn ∧ fn.body.isNone = false ∧ (fn.name == "runtime.NumGoroutine") = false := by
  unfold fnOK at h
  split at h
  · rename_i fn hf
    simp only [Bool.and_eq_true, Bool.not_eq_true'] at h
    exact ⟨fn, hf, h.1, h.2⟩
  · cases h

noncomputable def catN (l m : List PC) (k : List PC → Ans) : Ans := List.rec (motive := fun _ => (List PC → Ans) → AnsT) (fun k => k m) (fun x _ ih k => ih fun r => k (x :: r)) l k
theorem catN_inv : ∀ {l m : List PC} {k : List PC → Ans}, catN l m k = .ok → k (l ++ m) = .ok
  | [], _, _, h => h
  | x :: l, m, k, h => catN_inv (l := l) (m := m) (k := fun r => k (x :: r)) h
noncomputable def catV (l m : List V) (k : List V → Ans) : Ans := List.rec (motive := fun _ => (List V → Ans) → AnsT) (fun k => k m) (fun x _ ih k => ih fun r => k (x :: r)) l k
theorem catV_inv : ∀ {l m : List V} {k : List V → Ans}, catV l m k = .ok → k (l ++ m) = .ok
  | [], _, _, h => h
  | x :: l, m, k, h => catV_inv (l := l) (m := m) (k := fun r => k (x :: r)) h

noncomputable def goK (d : Option Tmp) (E : Env) (cs : List PC) (f : FuncId) (l : List V) (tm : Tm) (hp : Hp) (nx : Nat) (k : K3) : Ans :=
  catN cs E.forb fun forb => E.call f l forb hp nx (fun v hp' nx' => (updD d).run tm v fun tm' => k tm' hp' nx') (fun v hp' nx' => E.kp v tm hp' nx')

theorem goK_inv {o : Oper} {fo : Operand} {args : Array Operand} {ats : Array TypeId} {f : FuncId} {caps : List V} {fr : Fr} {E : Env} {cs : List PC} {tm : Tm} {hp : Hp} {nx : Nat} {k kn : K3}
    (ho : o.op = .call { callee := .value fo, args := args, argTypes := ats }) (hfo : evalV (absS fr tm hp nx) fo = .fn f caps) (hok : fnOK P f = true) (hf : E.forb = fr.forb) (hc : CallOK ρ P E.call) (hd : ∀ t, o.dst = some t → t < fr.n)
    (h : goK o.dst E cs f (evalL (absS fr tm hp nx) args.toList ++ caps) tm hp nx k = .ok) : QO ρ P (inL cs) o (absS fr tm hp nx) (NK fr k) (KE fr E kn) := by
  obtain ⟨fn, h1, h2, h3⟩ := fnOK_ok hok
  have h := catN_inv h
  have h4 := hc _ _ _ _ _ _ _ h
  have e : inL (cs ++ E.forb) = fun k r c => (absS fr tm hp nx).forb k r c ∨ inL cs k r c := by
    funext k r c
    rw [hf]
    apply propext
    constructor
    · rintro ⟨e, he, hx⟩
      rcases List.mem_append.mp he with g | g
      · exact .inr ⟨e, g, hx⟩
      · exact .inl ⟨e, g, hx⟩
    · rintro (⟨e, he, hx⟩ | ⟨e, he, hx⟩)
      · exact ⟨e, List.mem_append_right _ he, hx⟩
      · exact ⟨e, List.mem_append_left _ he, hx⟩
  rw [e] at h4
  refine qo_call ho hfo h1 h2 h3 h4 hd (fun v O n hr => ?_) (fun v O n hr => ?_)
  · obtain ⟨hp', rfl, h⟩ := hr
    obtain ⟨tm', h, h5⟩ := updD_inv h
    refine ⟨tm', hp', n, ?_, h⟩
    rw [← h5]
    rfl
  · obtain ⟨hp', rfl, h⟩ := hr
    exact ⟨tm, hp', n, rfl, h⟩

noncomputable def lCall (P : Program) (d : Option Tmp) (fo : Operand) (args : List Operand) : LOp := match fo with
  | .func f => match fnOK P f with
    | true => ⟨fun E cs tm hp nx k => (opds args).get tm fun l => goK d E cs f l tm hp nx k⟩
    | false => lbad 140
  | fo => ⟨fun E cs tm hp nx k => (opd fo).get tm fun v => v.onFn fun f caps => must (fnOK P f) ((opds args).get tm fun l => catV l caps fun l => goK d E cs f l tm hp nx k)⟩

theorem lCall_dyn {o : Oper} {fo : Operand} {args : Array Operand} {ats : Array TypeId} (ho : o.op = .call { callee := .value fo, args := args, argTypes := ats }) :
    LSpec ρ P o ⟨fun E cs tm hp nx k => (opd fo).get tm fun v => v.onFn fun f caps => must (fnOK P f) ((opds args.toList).get tm fun l => catV l caps fun l => goK o.dst E cs f l tm hp nx k)⟩ := by
  intro fr E cs tm hp nx k kn hf hc hd h
  have h := opd_inv (k := fun v => v.onFn fun f caps => must (fnOK P f) ((opds args.toList).get tm fun l => catV l caps fun l => goK o.dst E cs f l tm hp nx k)) h fr hp nx
  obtain ⟨f, caps, h1, h⟩ := V.onFn_inv h
  obtain ⟨h2, h⟩ := must_inv h
  have h := opds_inv (k := fun l => catV l caps fun l => goK o.dst E cs f l tm hp nx k) h fr hp nx
  exact goK_inv ho h1 h2 hf hc hd (catV_inv (k := fun l => goK o.dst E cs f l tm hp nx k) h)

theorem lCall_spec {o : Oper} {fo : Operand} {args : Array Operand} {ats : Array TypeId} (ho : o.op = .call { callee := .value fo, args := args, argTypes := ats }) : LSpec ρ P o (lCall P o.dst fo args.toList) := by
  cases fo with
  | func f =>
    unfold lCall
    simp only
    split
    · rename_i hok
      intro fr E cs tm hp nx k kn hf hc hd h
      have h := opds_inv (k := fun l => goK o.dst E cs f l tm hp nx k) h fr hp nx
      refine goK_inv ho rfl hok hf hc hd ?_
      rw [List.append_nil]
      exact h
    · exact lspec_bad
  | tmp t => exact lCall_dyn ho
  | const c => exact lCall_dyn ho
  | global g => exact lCall_dyn ho

noncomputable def lPanic (x : Operand) : LOp := ⟨fun E _ tm hp nx _ => (opd x).get tm fun v => v.onIfc fun t q => E.kp (.ifc t q) tm hp nx⟩
theorem lPanic_spec {o : Oper} {x : Operand} (ho : o.op = .panic x) : LSpec ρ P o (lPanic x) := by
  intro fr E cs tm hp nx k kn hf hc hd h
  obtain ⟨t, q, h1, h⟩ := V.onIfc_inv (opd_inv (k := fun v => v.onIfc fun t q => E.kp (.ifc t q) tm hp nx) h fr hp nx)
  exact qo_panic ho h1 ⟨tm, hp, nx, rfl, h⟩

noncomputable def pushK (tm : Tm) (v : V) (k : Tm → Ans) : Ans := (acc2 V 255).get tm fun u => u.onDefs ((acc2 V 255).upd tm (.tup [v]) k) (fun l => (acc2 V 255).upd tm (.tup (v :: l)) k)
theorem pushK_inv {tm : Tm} {v : V} {k : Tm → Ans} (h : pushK tm v k = .ok) : ∃ tm', k tm' = .ok ∧ ∀ (fr : Fr) (hp : Hp) (nx : Nat), ({ absS fr tm hp nx with defs := v :: absD tm } : St) = absS fr tm' hp nx := by
  obtain ⟨_, h⟩ := acc2_get h
  have key : ∀ l, absD tm = l → (acc2 V 255).upd tm (.tup (v :: l)) k = .ok → ∃ tm', k tm' = .ok ∧ ∀ (fr : Fr) (hp : Hp) (nx : Nat), ({ absS fr tm hp nx with defs := v :: absD tm } : St) = absS fr tm' hp nx := by
    intro l hl h
    obtain ⟨_, h⟩ := acc2_upd h
    refine ⟨_, h, fun fr hp nx => ?_⟩
    unfold absS
    have e1 : absT (put2 tm 255 (.tup (v :: l))) = absT tm := by
      funext t
      unfold absT
      by_cases e : t < 255
      · rw [if_pos e, if_pos e, get_put2 _ _ _ _ (by omega) (by omega), if_neg (by omega)]
      · rw [if_neg e, if_neg e]
    have e2 : absD (put2 tm 255 (.tup (v :: l))) = v :: l := by
      unfold absD
      rw [get_put2 _ _ _ _ (by omega) (by omega), if_pos rfl]
    rw [e1, e2, hl]
  rcases V.onDefs_inv h with ⟨l, h1, h⟩ | ⟨h1, h⟩
  · exact key l (by unfold absD; rw [h1]) h
  · refine key [] ?_ h
    unfold absD
    split
    · rename_i l hl; exact (h1 l hl).elim
    · rfl

noncomputable def lDefer (d : Option Tmp) (fo : Operand) : LOp := ⟨fun E _ tm hp nx k => (opd fo).get tm fun v => v.onFn fun f caps => pushK tm (.fn f caps) fun tm' => (updD d).run tm' (.sc undef) fun tm'' => k tm'' hp nx⟩
theorem lDefer_spec {o : Oper} {fo : Operand} {ats : Array TypeId} (ho : o.op = .defer { callee := .value fo, args := #[], argTypes := ats }) : LSpec ρ P o (lDefer o.dst fo) := by
  intro fr E cs tm hp nx k kn hf hc hd h
  obtain ⟨f, caps, h1, h⟩ := V.onFn_inv (opd_inv (k := fun v => v.onFn fun f caps => pushK tm (.fn f caps) fun tm' => (updD o.dst).run tm' (.sc undef) fun tm'' => k tm'' hp nx) h fr hp nx)
  obtain ⟨tm', h, h2⟩ := pushK_inv h
  obtain ⟨tm'', h, h3⟩ := updD_inv h
  refine qo_defer ho h1 hd ?_
  have : ({ absS fr tm hp nx with defs := .fn f caps :: (absS fr tm hp nx).defs } : St) = absS fr tm' hp nx := h2 fr hp nx
  rw [this, h3]
  exact nk_of h

/-! ### Which is which -/

noncomputable def lcall (P : Program) (d : Option Tmp) (c : Call) : LOp := match c.callee with
  | .value fo => lCall P d fo c.args.toList
  | .builtin .append => match c.args.toList, c.argTypes.toList with
    | [s, x], [t, tx] => lAppend P d t tx s x
    | _, _ => lbad 141
  | _ => lbad 142
theorem lcall_spec {o : Oper} {c : Call} (ho : o.op = .call c) : LSpec ρ P o (lcall P o.dst c) := by
  obtain ⟨callee, args, ats⟩ := c
  unfold lcall
  simp only
  split
  · exact lCall_spec ho
  · split
    · rename_i s x t tx hx ht
      refine lAppend_spec ?_
      rw [arr_of hx, arr_of ht] at ho
      exact ho
    · exact lspec_bad
  · exact lspec_bad

/-! ### A text's bytes -/

noncomputable def lStrBytes (P : Program) (d : Option Tmp) (t u : TypeId) (x : Operand) : LOp := match StrBytes P t u with
  | true => ⟨fun E cs tm hp nx k => (opd x).get tm fun v => v.onPs fun len n => (updD d).run tm (.ro 1 (byteRows len n)) fun tm' => k tm' hp nx⟩
  | false => lbad 146
theorem lStrBytes_spec {o : Oper} {t u : TypeId} {x : Operand} (ho : o.op = .convert t u x) : LSpec ρ P o (lStrBytes P o.dst t u x) := by
  unfold lStrBytes
  split
  · rename_i ht
    intro fr E cs tm hp nx k kn hf hc hd h
    have h := opd_inv (k := fun v => v.onPs fun len n => (updD o.dst).run tm (.ro 1 (byteRows len n)) fun tm' => k tm' hp nx) h fr hp nx
    obtain ⟨len, n, hx, h⟩ := V.onPs_inv h
    obtain ⟨tm', h, h2⟩ := updD_inv h
    refine qo_strBytes ho hx ht hd ?_
    rw [h2]
    exact nk_of h
  · exact lspec_bad

/-! ### A slice of bytes as what nobody writes any more -/

/-- Rows of one number each. -/
noncomputable def rowsI (ob : KOb) (l : Nat) : Nat → (List (List V) → Ans) → Ans :=
  Nat.rec (motive := fun _ => Nat → (List (List V) → Ans) → Ans) (fun _ k => k []) (fun _ ih off k => ob.row off fun row => sizeOne row fun q => q.onInt fun kd n => forceN (Nat.succ off) fun off' => ih off' fun rows => k ([.int kd n] :: rows)) l
theorem rowsI_inv {ob : KOb} {x : Ob} (hx : absK ob = some x) : ∀ {l off : Nat} {k : List (List V) → Ans}, rowsI ob l off k = .ok → ∃ rows, rows.length = l ∧ (∀ (r : Nat) (row : List V), rows[r]? = some row → x.row (off + r) = some row ∧ ∀ q ∈ row, q.flat = true) ∧ k rows = .ok
  | 0, off, k, h => ⟨[], rfl, by simp, h⟩
  | l + 1, off, k, h => by
    have h : (ob.row off fun row => sizeOne row fun q => q.onInt fun kd n => forceN (Nat.succ off) fun off' => rowsI ob l off' fun rows => k ([.int kd n] :: rows)) = .ok := h
    obtain ⟨y, row, h1, h2, h⟩ := KOb.row_inv h
    rw [hx] at h1
    cases h1
    obtain ⟨q, h3, h⟩ := sizeOne_inv h
    obtain ⟨kd, n, h4, h⟩ := V.onInt_inv h
    rw [forceN_eq] at h
    obtain ⟨rows, h5, h6, h⟩ := rowsI_inv hx h
    refine ⟨[.int kd n] :: rows, by simp [h5], fun r row' hr => ?_, h⟩
    cases r with
    | zero =>
      simp at hr
      subst hr
      subst h3 h4
      exact ⟨h2, fun q hq => by simp at hq; subst hq; rfl⟩
    | succ r =>
      simp at hr
      have := h6 r row' hr
      rw [show off + (r + 1) = Nat.succ off + r by omega]
      exact this

noncomputable def lSelfBytes (P : Program) (d : Option Tmp) (t u : TypeId) (x : Operand) : LOp := match SelfBytes P t u with
  | true => ⟨fun E cs tm hp nx k => (opd x).get tm fun v => v.onSl (fun j off len _ => (acc4 KOb j).get hp fun ob => must (Nat.beq off 0) (ob.ofS 1 (rowsI ob len 0 fun rows => noneK j E.forb (noneK j cs ((acc4 KOb j).upd hp .no fun hp' => (updD d).run tm (.ro 1 rows) fun tm' => k tm' hp' nx))))) (fun _ => .err 147)⟩
  | false => lbad 148
theorem lSelfBytes_spec {o : Oper} {t u : TypeId} {x : Operand} (ho : o.op = .convert t u x) : LSpec ρ P o (lSelfBytes P o.dst t u x) := by
  unfold lSelfBytes
  split
  · rename_i ht
    intro fr E cs tm hp nx k kn hf hc hd h
    have h := opd_inv (k := fun v => v.onSl (fun j off len _ => (acc4 KOb j).get hp fun ob => must (Nat.beq off 0) (ob.ofS 1 (rowsI ob len 0 fun rows => noneK j E.forb (noneK j cs ((acc4 KOb j).upd hp .no fun hp' => (updD o.dst).run tm (.ro 1 rows) fun tm' => k tm' hp' nx))))) (fun _ => .err 147)) h fr hp nx
    rcases V.onSl_inv h with ⟨j, off, len, full, hx, h⟩ | ⟨w, _, h⟩
    · obtain ⟨ob, h3, h⟩ := ob_inv h
      obtain ⟨h0, h⟩ := must_inv h
      have h0 := Nat.eq_of_beq_eq_true h0
      subst h0
      obtain ⟨⟨y, h4, h5⟩, h⟩ := KOb.ofS_inv h
      obtain ⟨rows, h6, h7, h⟩ := rowsI_inv h4 h
      obtain ⟨g1, h⟩ := noneK_inv h
      obtain ⟨g2, h⟩ := noneK_inv h
      obtain ⟨g3, h⟩ := acc4_upd h
      obtain ⟨tm', h, h2⟩ := updD_inv h
      refine qo_selfBytes ho hx ht (h3.trans h4) h5 h6 (fun r row hr => by have := h7 r row hr; rwa [Nat.zero_add] at this) g2 (by rw [hf] at g1; exact g1) hd ?_
      have e : ({ absS fr tm hp nx with objs := Objs.put (absS fr tm hp nx).objs j none } : St) = absS fr tm (put4 hp j .no) nx := by
        show ({ absS fr tm hp nx with objs := Objs.put (absO hp) j none } : St) = _
        rw [show Objs.put (absO hp) j none = absO (put4 hp j .no) from (absO_put (ob := .no) g3).symm]
        rfl
      rw [e, h2]
      exact nk_of h
    · exact Ans.no h
  · exact lspec_bad

noncomputable def lop (P : Program) (o : Oper) : LOp := match o.op with
  | .alloc t => lAlloc P o.dst t
  | .box _ x => lBox o.dst x
  | .buildSlice t n parts => lBuildSlice P o.dst t n parts.toList
  | .makeSlice t x y => lMake P o.dst t x y
  | .store t x y => match o.dst with
    | none => lStore P t x y
    | some _ => lbad 143
  | .call c => lcall P o.dst c
  | .panic x => lPanic x
  | .defer c => match c.callee, c.args.toList with
    | .value fo, [] => lDefer o.dst fo
    | _, _ => lbad 144
  | .convert t u x => match SelfBytes P t u with
    | true => lSelfBytes P o.dst t u x
    | false => lStrBytes P o.dst t u x
  | _ => lbad 145

theorem lop_spec {o : Oper} : LSpec ρ P o (lop P o) := by
  unfold lop
  split
  case h_1 h1 => exact lAlloc_spec h1
  case h_2 h1 => exact lBox_spec h1
  case h_3 h1 => exact lBuildSlice_spec h1
  case h_4 h1 => exact lMake_spec h1
  case h_5 h1 =>
    split
    · rename_i hd
      exact lStore_spec h1 hd
    · exact lspec_bad
  case h_6 h1 => exact lcall_spec h1
  case h_7 h1 => exact lPanic_spec h1
  case h_8 c h1 =>
    obtain ⟨callee, args, ats⟩ := c
    simp only
    split
    · rename_i fo hc ha
      refine lDefer_spec (ats := ats) ?_
      rw [h1, arr_of ha]
    · exact lspec_bad
  case h_9 h1 =>
    split
    · exact lSelfBytes_spec h1
    · exact lStrBytes_spec h1
  case h_10 => exact lspec_bad

end Go.Proofs.YtjljgldgkkfckaaDoor.M
