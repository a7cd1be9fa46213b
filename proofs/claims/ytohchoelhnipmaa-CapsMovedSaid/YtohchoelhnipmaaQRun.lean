/- Rules whose side conditions are reckoned, for proofs that run through a body. -/
import Derived.Test.YtohchoelhnipmaaQAuto
namespace Go.Proofs.Ytohchoelhnipmaa.Q
open Go Go.RowKit
set_option linter.unusedSimpArgs false
set_option linter.unusedVariables false

variable {P : Program} {σ : St} {K : Ex → St → Prop}

/-! ### Where a piece of code ends -/

theorem k_then {N : St → Prop} (h : N σ) : thenK K N .normal σ := h
theorem k_then_ret {N : St → Prop} (h : K .ret σ) : thenK K N .ret σ := h
theorem k_then_exit {N : St → Prop} {id : Nat} (h : K (.exit id) σ) : thenK K N (.exit id) σ := h
theorem k_then_panic {N : St → Prop} {v : V} (h : K (.panic v) σ) : thenK K N (.panic v) σ := h
theorem k_block {id : Nat} (h : K .normal σ) : blockK id K .normal σ := h
theorem k_block_ret {id : Nat} (h : K .ret σ) : blockK id K .ret σ := h
theorem k_block_panic {id : Nat} {v : V} (h : K (.panic v) σ) : blockK id K (.panic v) σ := h
theorem k_block_here {id : Nat} (h : K .normal σ) : blockK id K (.exit id) σ := by
  show (match Nat.beq id id with | true => K .normal σ | false => K (.exit id) σ)
  rw [Nat.beq_refl]
  exact h
theorem k_block_past {id j : Nat} (hj : Nat.beq j id = false) (h : K (.exit j) σ) : blockK id K (.exit j) σ := by
  show (match Nat.beq j id with | true => K .normal σ | false => K (.exit j) σ)
  rw [hj]
  exact h

theorem q_cond_t {c : Operand} {x y : Code} (hc : evalV σ c = some (.sc (.bool true))) (h : QC P x σ K) : QC P (.cond c x y) σ K :=
  q_cond hc (fun _ => h) (fun e => by cases e)
theorem q_cond_f {c : Operand} {x y : Code} (hc : evalV σ c = some (.sc (.bool false))) (h : QC P y σ K) : QC P (.cond c x y) σ K :=
  q_cond hc (fun e => by cases e) (fun _ => h)

/-! ### Nothing but what is named by number below n is left -/

theorem V.map_none (e : Nat → Nat) : ∀ (q : V), q.idsLt 0 = true → q.map e = q
  | .sc _, _ => rfl
  | .ro _ _, _ => rfl
  | .pro _, _ => rfl
  | .ptr _ _ _, h => by simp [V.idsLt] at h
  | .sl _ _ _, h => by simp [V.idsLt] at h
  | .fn f l, h => by simp only [V.idsLt] at h; simp only [V.map]; rw [mapL_none e l h]
  | .agg l, h => by simp only [V.idsLt] at h; simp only [V.map]; rw [mapL_none e l h]
  | .tup l, h => by simp only [V.idsLt] at h; simp only [V.map]; rw [mapL_none e l h]
  where
  mapL_none (e : Nat → Nat) : ∀ (l : List V), V.idsLtL 0 l = true → V.mapL e l = l
    | [], _ => rfl
    | q :: l, h => by
      simp only [V.idsLtL, Bool.and_eq_true] at h
      simp only [V.mapL]
      rw [V.map_none e q h.1, mapL_none e l h.2]

/-- What yields a plain value need keep no object. -/
theorem resG_none {fn : Func} {v : V} (h : ResOK P fn σ v) (hm : σ.m = 0) (hi : v.idsLt 0 = true) : ResG P fn σ v [] := by
  intro X T a w hh
  obtain ⟨x, h1, h2⟩ := h X T a w hh
  have h3 : HoldsT X T ⟨1, [(0, v)], σ.objs, σ.m, σ.mods⟩ ⟨#[x], []⟩ w := by
    refine ⟨hh.pre, hh.mem, fun t q hq => ?_, rfl, rfl, hh.keep, hh.fresh, hh.avoid0, hh.hm, hh.hmods⟩
    simp only [look] at hq
    split at hq
    · rename_i e
      have := Nat.eq_of_beq_eq_true e
      subst this
      cases hq
      exact h2
    · cases hq
  obtain ⟨T', h4⟩ := gh_number (O' := []) (tmps' := [(0, v)]) id (by show σ.m ≤ 0; omega) (fun j hj => by simp at hj) (fun i j hi => by simp at hi) (fun j hj => rfl) (fun j _ hj => by simp at hj) (fun j ob hj => by simp at hj)
    (fun t q hq => by
      simp only [look] at hq
      split at hq
      · rename_i e
        have := Nat.eq_of_beq_eq_true e
        subst this
        cases hq
        rw [V.map_none id v hi]
        exact ⟨by simp [look, Nat.beq_refl], hi⟩
      · cases hq) X T _ w h3
  exact ⟨x, T', h1, ⟨h4.pre, h4.mem, fun t v hv => by simp [look] at hv, rfl, rfl, h4.keep, h4.fresh, h4.avoid0, rfl, rfl⟩, h4.tmp 0 v (by simp [look, Nat.beq_refl])⟩

/-- A function that yields v, and leaves nothing that anybody sees. -/
def QPure (P : Program) (f : FuncId) (args : List V) (v : V) : Prop := QCalls P f args [] [] (fun o O => o = .ret v ∧ O = []) ∧ v.idsLt 0 = true

theorem k_pure {fn : Func} {t : Nat} {v v' : V} (hr : fn.results = #[.tmp t]) (hm : σ.m = 0) (hv : look σ.tmps t = some v) (hi : v.idsLt 0 = true) (he : v = v') :
    bodyK P fn (fun o O => o = .ret v' ∧ O = []) .ret σ := by
  subst he
  exact ⟨v, [], resG_none (res_tmp hr hv) hm hi, rfl, rfl⟩

theorem k_pure' {fn : Func} {t : Nat} {v v' : V} (hr : fn.results = #[.tmp t]) (hm : σ.m = 0) (hv : look σ.tmps t = some v) (hi : v.idsLt 0 = true) (he : v = v') :
    bodyK P fn (fun o O => o = .ret v' ∧ O = []) .normal σ := k_pure (P := P) hr hm hv hi he

/-! ### Calls -/

theorem setAll_none (f : Ob → Ob) (O O' : Objs) : setAll f O [] O' = O := by cases O' <;> rfl

/-- A call of a function that leaves nothing. -/
theorem r_pure {rm : List Nat} {o : Oper} {args : Array Operand} {ats : Array TypeId} {fid : FuncId} {fn : Func} {l : List V} {v : V} {N : St → Prop} {d : Option Tmp}
    (hc : QPure P fid l v) (hfn : P.funcs[fid]? = some fn) (ho : o.op = .call { callee := .value (.func fid), args := args, argTypes := ats }) (hl : evalL σ args.toList = some l)
    (hb : fn.body.isNone = false) (hn : (fn.name == "runtime.NumGoroutine") = false) (hids : V.idsLtL 0 l = true) (hdst : o.dst = d) (hd : dstOK o σ = true) (h : N (σ.put d v)) : QO P rm o σ N K := by
  refine qo_call (g := []) (mods := []) (caps := []) ho rfl hl hfn hb hn ?_ hids ⟨List.nodup_nil, rfl, fun i j h => by simp at h, fun k hk => by simp at hk⟩ (fun k hk => by simp at hk) hc.1 hd ?_ ?_
  · rw [V.map_none.mapL_none _ l hids, List.append_nil]
  · rintro v' O2 ⟨h1, rfl⟩
    injection h1 with h1
    subst h1
    rw [V.map_none _ v' hc.2]
    have : backObjs σ.objs [] [] = σ.objs := by simp [backObjs, setAll_none]
    rw [this, hdst]
    exact h
  · rintro v' O2 ⟨h1, _⟩
    cases h1

/-! ### Objects -/

theorem r_box {rm : List Nat} {o : Oper} {t : TypeId} {x : Operand} {q : V} {N : St → Prop} {d : Option Tmp} (ho : o.op = .box t x) (hx : evalV σ x = some q) (hq : (cellsV q).all V.one = true) (hdst : o.dst = d) (hd : dstOK o σ = true)
    (h : N (({ σ with objs := σ.objs ++ [some (boxOb (cellsV q))] } : St).put d (.ptr σ.objs.length 0 0))) : QO P rm o σ N K :=
  qo_box ho hx hq hd (by rw [hdst]; exact h)

theorem r_alloc {F : TypeId → Option TI} (hF : FOK P F) {rm : List Nat} {o : Oper} {t : TypeId} {ti : TI} {N : St → Prop} {d : Option Tmp} (ho : o.op = .alloc t) (ht : F t = some ti) (hz : (ti.zero.map V.sc).all V.one = true) (hdst : o.dst = d) (hd : dstOK o σ = true)
    (h : N (({ σ with objs := σ.objs ++ [some (boxOb (ti.zero.map V.sc))] } : St).put d (.ptr σ.objs.length 0 0))) : QO P rm o σ N K :=
  qo_alloc ho (hF _ _ ht) hz hd (by rw [hdst]; exact h)

theorem r_store {F : TypeId → Option TI} (hF : FOK P F) {rm : List Nat} {o : Oper} {t : TypeId} {ti : TI} {x y : Operand} {k r c : Nat} {ob : Ob} {row : List V} {q : V} {N : St → Prop} (ho : o.op = .store t x y) (hdst : o.dst = none)
    (hx : evalV σ x = some (.ptr k r c)) (hy : evalV σ y = some q) (hone : q.one = true) (ht : F t = some ti) (hs : Nat.beq ti.size 1 = true) (hk : σ.objs[k]? = some (some ob)) (hrow : ob.rows[r]? = some row)
    (hc : Nat.blt c row.length = true) (hmay : may σ k = true) (hrm : rm.contains k = true) (h : N { σ with objs := σ.objs.set k (some (setOb ob r (row.set c q))) }) : QO P rm o σ N K :=
  qo_store_word ho hdst hx hy hone (hF _ _ ht) (Nat.eq_of_beq_eq_true hs) hk hrow (by simpa [Nat.blt_eq] using hc) hmay (by simpa using hrm) h

theorem r_storeA {F : TypeId → Option TI} (hF : FOK P F) {rm : List Nat} {o : Oper} {t : TypeId} {ti : TI} {x y : Operand} {k r c : Nat} {ob : Ob} {row l : List V} {N : St → Prop} (ho : o.op = .store t x y) (hdst : o.dst = none)
    (hx : evalV σ x = some (.ptr k r c)) (hy : evalV σ y = some (.agg l)) (hone : l.all V.one = true) (ht : F t = some ti) (hs : Nat.beq ti.size l.length = true) (hk : σ.objs[k]? = some (some ob)) (hrow : ob.rows[r]? = some row)
    (hc : Nat.ble (c + l.length) row.length = true) (hmay : may σ k = true) (hrm : rm.contains k = true) (h : N { σ with objs := σ.objs.set k (some (setOb ob r (putRow row c l))) }) : QO P rm o σ N K :=
  qo_store_agg ho hdst hx hy hone (hF _ _ ht) (Nat.eq_of_beq_eq_true hs) hk hrow (by simpa [Nat.ble_eq] using hc) hmay (by simpa using hrm) h

/-- An operation in whatever order, that only looks. -/
theorem qa_quiet {F : TypeId → Option TI} (hF : FOK P F) {ops : Array Oper} {rm : List Nat} {fuel i : Nat} {listed listed' : Array Bool} {o : Oper} {v : V} {d : Option Tmp} (rest : List Nat) (hr : Region.ready .any ops listed = i :: rest) (hi : ops[i]? = some o)
    (hs : Region.noSelect ops = true) (hf : Region.free .any ops listed i = true) (hw : wantA ops σ o = some true) (hv : qv F σ rm o.op = some v) (hdst : o.dst = d) (hd : dstOK o σ = true)
    (h : QA P ops K rm fuel (listed.setIfInBounds i true) (σ.put d v)) : QA P ops K rm (fuel + 1) listed σ :=
  qa_take hi hs hf (by rw [hr]; simp) (.inl ⟨hw, qv_sound hF hv⟩) hd (by rw [hdst]; exact h)

/-! ### Results in cells -/

theorem res_cellA {fn : Func} {t : Nat} {ty : TypeId} {ti : TI} {k r c : Nat} {ob : Ob} {row l : List V} (hr : fn.results = #[.cell t ty]) (hx : look σ.tmps t = some (.ptr k r c))
    (ht : TyOK P ty ti) (hs : ti.sh.agg = true) (hob : σ.objs[k]? = some (some ob)) (hrow : ob.rows[r]? = some row) (hl : (row.drop c).take ti.size = l) (hn : l.length = ti.size) : ResOK P fn σ (.agg l) := by
  intro X T a w hh
  have hq : QQ P σ [] { dst := none, op := .load ty (.tmp t), type := ty, pos := "", after := #[], guard := none } (.agg l) := qq_load_agg rfl hx ht hs (by simp) hob hrow hl hn
  obtain ⟨x, h1, h2⟩ := hq X T a w hh
  have h3 := h2 w (Stab.refl _ _)
  refine ⟨x, ?_, h1⟩
  obtain ⟨b, s, _, e⟩ := rep_ptr (hh.tmp t _ hx)
  have e' : a.eval (.tmp t) = a.tmps.getD t undef := rfl
  simp only [execOp, Instr.loadAt, Instr.sureAddr, e', e] at h3
  simp only [results, hr, asAddr, e]
  have e2 : a.tmps[t]?.getD undef = .pointer (some ⟨b, r * s + c, none⟩) := by rw [← Array.getD_eq_getD_getElem?]; exact e
  simp at h3
  simp [e2]
  revert h3
  cases h4 : (loadVar ty ⟨b, r * s + c, none⟩).run P w <;> simp

theorem k_pureA {F : TypeId → Option TI} (hF : FOK P F) {fn : Func} {t : Nat} {v' : V} {ty : TypeId} {ti : TI} {k c : Nat} {ob : Ob} {row : List V} (hr : fn.results = #[.cell t ty]) (hm : σ.m = 0) (hx : look σ.tmps t = some (.ptr k 0 c))
    (ht : F ty = some ti) (hs : ti.sh.agg = true) (hob : σ.objs[k]? = some (some ob)) (hrow : ob.rows[0]? = some row) (hn : Nat.beq ((row.drop c).take ti.size).length ti.size = true)
    (hi : V.idsLtL 0 ((row.drop c).take ti.size) = true) (he : V.agg ((row.drop c).take ti.size) = v') : bodyK P fn (fun o O => o = .ret v' ∧ O = []) .ret σ := by
  subst he
  exact ⟨_, [], resG_none (res_cellA hr hx (hF _ _ ht) hs hob hrow rfl (Nat.eq_of_beq_eq_true hn)) hm hi, rfl, rfl⟩

theorem qs_rem {ops : Array Oper} {o : Oper} {rest : List Oper} {i : Nat} {d : Option Tmp} {x y : Operand} {t u : TypeId} {k : IntKind} {m n : Int} (hw : wantA ops σ o = some true) (ho : o.op = .binOp .rem t x y u)
    (hx : evalV σ x = some (.sc (.int k m))) (hy : evalV σ y = some (.sc (.int k n))) (hdst : o.dst = d) (hd : dstOK o σ = true) (hn : n ≠ 0)
    (h : QS P ops K rest (i + 1) (σ.put d (.sc (.int k (m.tmod n))))) : QS P ops K (o :: rest) i σ :=
  qs_by [] hw (qo_quiet (qq_rem ho hx hy hn) hd (by rw [hdst]; exact h))

theorem qs_quo {ops : Array Oper} {o : Oper} {rest : List Oper} {i : Nat} {d : Option Tmp} {x y : Operand} {t u : TypeId} {k : IntKind} {m n : Int} (hw : wantA ops σ o = some true) (ho : o.op = .binOp .quo t x y u)
    (hx : evalV σ x = some (.sc (.int k m))) (hy : evalV σ y = some (.sc (.int k n))) (hdst : o.dst = d) (hd : dstOK o σ = true) (hn : n ≠ 0)
    (h : QS P ops K rest (i + 1) (σ.put d (.sc (.int k (k.wrap (m.tdiv n)))))) : QS P ops K (o :: rest) i σ :=
  qs_by [] hw (qo_quiet (qq_quo ho hx hy hn) hd (by rw [hdst]; exact h))

/-! ### Two results -/

theorem res_tmp2 {fn : Func} {s t : Nat} {u v : V} (hr : fn.results = #[.tmp s, .tmp t]) (hu : look σ.tmps s = some u) (hv : look σ.tmps t = some v) : ResOK P fn σ (.tup [u, v]) := by
  intro X T a w h
  refine ⟨.tuple #[a.tmps.getD s undef, a.tmps.getD t undef], by simp [results, hr], .tup _ _ rfl fun i q hq => ?_⟩
  match i with
  | 0 => simp at hq; subst hq; exact h.tmp s u hu
  | 1 => simp at hq; subst hq; exact h.tmp t v hv
  | i + 2 => simp at hq

theorem k_pure2 {fn : Func} {s t : Nat} {u v v' : V} (hr : fn.results = #[.tmp s, .tmp t]) (hm : σ.m = 0) (hu : look σ.tmps s = some u) (hv : look σ.tmps t = some v) (hi : V.idsLt 0 (.tup [u, v]) = true) (he : V.tup [u, v] = v') :
    bodyK P fn (fun o O => o = .ret v' ∧ O = []) .ret σ := by
  subst he
  exact ⟨_, [], resG_none (res_tmp2 hr hu hv) hm hi, rfl, rfl⟩

/-! ### Rounds of a loop, one by one -/

def QR (P : Program) (c : Code) (K : Ex → St → Prop) : Nat → St → Prop
  | 0, _ => False
  | n + 1, σ => QC P c σ (thenK K (QR P c K n))

theorem QR.sound {c : Code} : ∀ (n : Nat) (σ : St), QR P c K n σ → ∀ (X : Ctx) (T : Tab) (a : Act) (w : World), HoldsT X T σ a w → Code.rounds P c (Post X K) n a w
  | 0, σ, h, _, _, _, _, _ => h.elim
  | n + 1, σ, h, X, T, a, w, hh => by
    rw [rounds_succ]
    refine wp_mono (h X T a w hh) ?_
    intro e a' w' hp
    cases e with
    | normal => obtain ⟨T', σ', h1, h2⟩ := hp; exact QR.sound n σ' h1 X T' a' w' h2
    | exit id => exact hp
    | ret => exact hp
    | panic c => exact hp
    | goto l => exact hp
    | outgrown => exact hp

theorem q_rounds {c : Code} (n : Nat) (h : QR P c K n σ) : QC P (.loop c) σ K := fun X T a w hh => wp_loop_rounds n (QR.sound n σ h X T a w hh)
theorem qr_round {c : Code} {n : Nat} (h : QC P c σ (thenK K (QR P c K n))) : QR P c K (n + 1) σ := h

/-- A loop; at its head any other account of the state will do. -/
theorem q_loop_g {c : Code} (I : Nat → St → Prop) (n : Nat) (h0 : ∃ σ', Gh σ σ' ∧ I n σ')
    (hr : ∀ n σ, I n σ → QC P c σ (thenK K fun σ' => ∃ σ'' m, Gh σ' σ'' ∧ m < n ∧ I m σ'')) : QC P (.loop c) σ K := by
  refine q_loop (fun n σ => ∃ σ', Gh σ σ' ∧ I n σ') n h0 ?_
  rintro n σ1 ⟨σ2, h1, h2⟩
  refine q_ghost h1 (QC.mono (hr n σ2 h2) ?_)
  intro e σ3 h3
  cases e with
  | normal => obtain ⟨σ4, m, h4, h5, h6⟩ := h3; exact ⟨m, h5, σ4, h4, h6⟩
  | exit id => exact h3
  | ret => exact h3
  | panic v => exact h3

/-! ### Literals of slices -/

def chunk (es : Nat) : Nat → List V → List (List V)
  | 0, _ => []
  | n + 1, l => l.take es :: chunk es n (l.drop es)

theorem chunk_spec (es : Nat) : ∀ (n : Nat) (l : List V), l.length = n * es → l.all V.one = true →
    (chunk es n l).flatten = l ∧ (chunk es n l).length = n ∧ ∀ row ∈ chunk es n l, row.length = es ∧ ∀ q ∈ row, q.one = true
  | 0, l, h, _ => by simp at h; subst h; simp [chunk]
  | n + 1, l, h, ho => by
    rw [Nat.add_mul] at h
    have ho' := List.all_eq_true.mp ho
    obtain ⟨h1, h2, h3⟩ := chunk_spec es n (l.drop es) (by simp; omega) (List.all_eq_true.mpr fun q hq => ho' q (List.mem_of_mem_drop hq))
    refine ⟨by simp [chunk, h1], by simp [chunk, h2], fun row hrow => ?_⟩
    simp only [chunk, List.mem_cons] at hrow
    rcases hrow with rfl | hrow
    · exact ⟨by simp; omega, fun q hq => ho' q (List.mem_of_mem_take hq)⟩
    · exact h3 row hrow

theorem r_slice {F : TypeId → Option TI} (hF : FOK P F) {rm : List Nat} {o : Oper} {t : TypeId} {e es eb n s : Nat} {te : TI} {z : List Value} {parts : Array (Nat × Operand)} {l : List (Nat × V)} {flat : List V} {N : St → Prop} {d : Option Tmp}
    (ho : o.op = .buildSlice t n parts) (hl : evalParts σ parts.toList = some l) (ht : F t = some ⟨s, .slice e es eb, z⟩) (he : F e = some te) (hz : Nat.beq te.zero.length es = true) (hes : Nat.blt 0 (n * es) = true)
    (hbig : Nat.ble (n * es) 16777216 = true) (hf : fillV (fun i => some (i * es, es)) ((List.replicate n (te.zero.map V.sc)).flatten) l = some flat) (hlen : Nat.beq flat.length (n * es) = true) (hone : flat.all V.one = true)
    (hdst : o.dst = d) (hd : dstOK o σ = true)
    (h : N (({ σ with objs := σ.objs ++ [some ⟨es, chunk es n flat⟩] } : St).put d (.sl σ.objs.length 0 n))) : QO P rm o σ N K := by
  obtain ⟨h1, h2, h3⟩ := chunk_spec es n flat (Nat.eq_of_beq_eq_true hlen) hone
  exact qo_buildSlice ho hl (ElOK.of (hF _ _ ht) rfl (hF _ _ he) (Nat.eq_of_beq_eq_true hz)) (hF _ _ he) (by simpa [Nat.blt_eq] using hes) (by simpa [Nat.ble_eq] using hbig) (by rw [h1]; exact hf) h2 h3 hd (by rw [hdst]; exact h)

/-! ### Made plain: what is reckoned comes out written out -/

theorem plainL {α : Type} {l r : List α} (h : forceL l some = some r) : l = r := by
  rw [forceL_eq] at h
  exact Option.some.inj h

def pickN : List Nat → Nat → Option Nat
  | [], n => some n
  | k :: l, n => match Nat.beq n k with
    | true => some k
    | false => pickN l n

theorem plainN : ∀ {l : List Nat} {n k : Nat}, pickN l n = some k → n = k
  | [], n, k, h => Option.some.inj h
  | j :: l, n, k, h => by
    unfold pickN at h
    split at h
    · rename_i e
      cases h
      exact Nat.eq_of_beq_eq_true e
    · exact plainN h

def few : List Nat := [0, 1, 2, 3, 4, 5, 6, 7, 8, 9, 10, 11, 12, 13, 14, 15, 16, 17, 18, 19, 20, 21, 22, 23, 24, 25, 26, 27, 28, 29, 30, 31, 32, 33, 34, 35, 36, 37, 38, 39, 40]

/-! ### The same in a region that goes by the text's order, the state field by field -/

section
variable {ops : Array Oper} {o : Oper} {rest : List Oper} {i n m d : Nat} {tmps : List (Nat × V)} {objs : Objs} {mods : List Nat} {F : TypeId → Option TI}

theorem x_init {f : FuncId} {fn : Func} {c : Code} {args : List V} {R : Out → Objs → Prop} (hf : P.funcs[f]? = some fn) (hb : fn.body = some c) (hn : args.length + (fn.ntmps - args.length) = n) (ht : forceL (number 0 args) some = some tmps) (hm : pickN few objs.length = some m)
    (h : QC P c ⟨n, tmps, objs, m, mods⟩ (bodyK P fn R)) : QCalls P f args objs mods R := by
  have ht := plainL ht
  have hm := plainN hm
  subst hn ht hm
  exact qcalls_body hf hb h

theorem x_one (hF : FOK P F) {v : V} (hw : wantA ops ⟨n, tmps, objs, m, mods⟩ o = some true) (hv : qv F ⟨n, tmps, objs, m, mods⟩ [] o.op = some v) (hdst : o.dst = some d) (hd : Nat.blt d n = true)
    (h : QS P ops K rest (i + 1) ⟨n, (d, v) :: tmps, objs, m, mods⟩) : QS P ops K (o :: rest) i ⟨n, tmps, objs, m, mods⟩ :=
  qs_one hF hw hv hdst (by simp only [dstOK, hdst]; exact hd) h

theorem x_skip (hw : wantA ops ⟨n, tmps, objs, m, mods⟩ o = some false) (hdst : o.dst = some d) (hd : Nat.blt d n = true) (h : QS P ops K rest (i + 1) ⟨n, (d, .sc undef) :: tmps, objs, m, mods⟩) : QS P ops K (o :: rest) i ⟨n, tmps, objs, m, mods⟩ :=
  qs_skip hw hdst (by simp only [dstOK, hdst]; exact hd) h

theorem x_skip' (hw : wantA ops ⟨n, tmps, objs, m, mods⟩ o = some false) (hdst : o.dst = none) (h : QS P ops K rest (i + 1) ⟨n, tmps, objs, m, mods⟩) : QS P ops K (o :: rest) i ⟨n, tmps, objs, m, mods⟩ :=
  qs_skip hw hdst (by simp only [dstOK, hdst]) h

theorem x_split {t : Nat} {x : Bool} (ht : guardSlot ops o = some t) (hx : look tmps t = some (.sc (.bool x)))
    (h1 : x = true → QS P ops K (o :: rest) i ⟨n, (t, .sc (.bool true)) :: tmps, objs, m, mods⟩) (h2 : x = false → QS P ops K (o :: rest) i ⟨n, (t, .sc (.bool false)) :: tmps, objs, m, mods⟩) : QS P ops K (o :: rest) i ⟨n, tmps, objs, m, mods⟩ :=
  qs_split ht hx h1 h2

theorem x_box {t : TypeId} {x : Operand} {q : V} {l : List V} {k : Nat} {objs' : Objs} {s : Nat} (hw : wantA ops ⟨n, tmps, objs, m, mods⟩ o = some true) (ho : o.op = .box t x) (hx : evalV ⟨n, tmps, objs, m, mods⟩ x = some q) (hl : forceL (cellsV q) some = some l) (hq : l.all V.one = true)
    (hdst : o.dst = some d) (hd : Nat.blt d n = true) (hk : pickN few objs.length = some k) (hs : pickN few l.length = some s) (hO : forceL (objs ++ [some ⟨s, [l]⟩]) some = some objs')
    (h : QS P ops K rest (i + 1) ⟨n, (d, .ptr k 0 0) :: tmps, objs', m, mods⟩) : QS P ops K (o :: rest) i ⟨n, tmps, objs, m, mods⟩ := by
  have hl := plainL hl
  have hk := plainN hk
  have hs := plainN hs
  have hO := plainL hO
  subst hl hk hs hO
  exact qs_by [] hw (r_box ho hx hq hdst (by simp only [dstOK, hdst]; exact hd) h)

theorem x_alloc (hF : FOK P F) {t : TypeId} {ti : TI} {l : List V} {k s : Nat} {objs' : Objs} (hw : wantA ops ⟨n, tmps, objs, m, mods⟩ o = some true) (ho : o.op = .alloc t) (ht : F t = some ti) (hl : forceL (ti.zero.map V.sc) some = some l) (hz : l.all V.one = true)
    (hdst : o.dst = some d) (hd : Nat.blt d n = true) (hk : pickN few objs.length = some k) (hs : pickN few l.length = some s) (hO : forceL (objs ++ [some ⟨s, [l]⟩]) some = some objs')
    (h : QS P ops K rest (i + 1) ⟨n, (d, .ptr k 0 0) :: tmps, objs', m, mods⟩) : QS P ops K (o :: rest) i ⟨n, tmps, objs, m, mods⟩ := by
  have hl := plainL hl
  have hk := plainN hk
  have hs := plainN hs
  have hO := plainL hO
  subst hl hk hs hO
  exact qs_by [] hw (r_alloc hF ho ht hz hdst (by simp only [dstOK, hdst]; exact hd) h)

theorem x_store (hF : FOK P F) {t : TypeId} {ti : TI} {x y : Operand} {k r c : Nat} {ob : Ob} {row row' : List V} {rows' : List (List V)} {objs' : Objs} {q : V} (hw : wantA ops ⟨n, tmps, objs, m, mods⟩ o = some true) (ho : o.op = .store t x y) (hdst : o.dst = none)
    (hx : evalV ⟨n, tmps, objs, m, mods⟩ x = some (.ptr k r c)) (hy : evalV ⟨n, tmps, objs, m, mods⟩ y = some q) (hone : q.one = true) (ht : F t = some ti) (hs : Nat.beq ti.size 1 = true) (hk : objs[k]? = some (some ob)) (hrow : ob.rows[r]? = some row)
    (hc : Nat.blt c row.length = true) (hmay : may ⟨n, tmps, objs, m, mods⟩ k = true) (h1 : forceL (row.set c q) some = some row') (h2 : forceL (ob.rows.set r row') some = some rows') (h3 : forceL (objs.set k (some ⟨ob.s, rows'⟩)) some = some objs')
    (h : QS P ops K rest (i + 1) ⟨n, tmps, objs', m, mods⟩) : QS P ops K (o :: rest) i ⟨n, tmps, objs, m, mods⟩ := by
  have h1 := plainL h1
  have h2 := plainL h2
  have h3 := plainL h3
  subst h1 h2 h3
  exact qs_by [k] hw (r_store hF ho hdst hx hy hone ht hs hk hrow hc hmay (by simp) h)

theorem x_storeA (hF : FOK P F) {t : TypeId} {ti : TI} {x y : Operand} {k r c : Nat} {ob : Ob} {row l row' : List V} {rows' : List (List V)} {objs' : Objs} (hw : wantA ops ⟨n, tmps, objs, m, mods⟩ o = some true) (ho : o.op = .store t x y) (hdst : o.dst = none)
    (hx : evalV ⟨n, tmps, objs, m, mods⟩ x = some (.ptr k r c)) (hy : evalV ⟨n, tmps, objs, m, mods⟩ y = some (.agg l)) (hone : l.all V.one = true) (ht : F t = some ti) (hs : Nat.beq ti.size l.length = true) (hk : objs[k]? = some (some ob)) (hrow : ob.rows[r]? = some row)
    (hc : Nat.ble (c + l.length) row.length = true) (hmay : may ⟨n, tmps, objs, m, mods⟩ k = true) (h1 : forceL (putRow row c l) some = some row') (h2 : forceL (ob.rows.set r row') some = some rows') (h3 : forceL (objs.set k (some ⟨ob.s, rows'⟩)) some = some objs')
    (h : QS P ops K rest (i + 1) ⟨n, tmps, objs', m, mods⟩) : QS P ops K (o :: rest) i ⟨n, tmps, objs, m, mods⟩ := by
  have h1 := plainL h1
  have h2 := plainL h2
  have h3 := plainL h3
  subst h1 h2 h3
  exact qs_by [k] hw (r_storeA hF ho hdst hx hy hone ht hs hk hrow hc hmay (by simp) h)

theorem x_pure {args : Array Operand} {ats : Array TypeId} {fid : FuncId} {fn : Func} {l : List V} {v : V} (hc : QPure P fid l v) (hfn : P.funcs[fid]? = some fn) (hw : wantA ops ⟨n, tmps, objs, m, mods⟩ o = some true)
    (ho : o.op = .call { callee := .value (.func fid), args := args, argTypes := ats }) (hl : evalL ⟨n, tmps, objs, m, mods⟩ args.toList = some l)
    (hb : fn.body.isNone = false) (hn : (fn.name == "runtime.NumGoroutine") = false) (hids : V.idsLtL 0 l = true) (hdst : o.dst = some d) (hd : Nat.blt d n = true) (h : QS P ops K rest (i + 1) ⟨n, (d, v) :: tmps, objs, m, mods⟩) :
    QS P ops K (o :: rest) i ⟨n, tmps, objs, m, mods⟩ :=
  qs_by [] hw (r_pure hc hfn ho hl hb hn hids hdst (by simp only [dstOK, hdst]; exact hd) h)

theorem x_rem {x y : Operand} {t u : TypeId} {k : IntKind} {a b : Int} (hw : wantA ops ⟨n, tmps, objs, m, mods⟩ o = some true) (ho : o.op = .binOp .rem t x y u)
    (hx : evalV ⟨n, tmps, objs, m, mods⟩ x = some (.sc (.int k a))) (hy : evalV ⟨n, tmps, objs, m, mods⟩ y = some (.sc (.int k b))) (hdst : o.dst = some d) (hd : Nat.blt d n = true) (hn : b ≠ 0)
    (h : QS P ops K rest (i + 1) ⟨n, (d, .sc (.int k (a.tmod b))) :: tmps, objs, m, mods⟩) : QS P ops K (o :: rest) i ⟨n, tmps, objs, m, mods⟩ :=
  qs_rem hw ho hx hy hdst (by simp only [dstOK, hdst]; exact hd) hn h

theorem x_quo {x y : Operand} {t u : TypeId} {k : IntKind} {a b : Int} (hw : wantA ops ⟨n, tmps, objs, m, mods⟩ o = some true) (ho : o.op = .binOp .quo t x y u)
    (hx : evalV ⟨n, tmps, objs, m, mods⟩ x = some (.sc (.int k a))) (hy : evalV ⟨n, tmps, objs, m, mods⟩ y = some (.sc (.int k b))) (hdst : o.dst = some d) (hd : Nat.blt d n = true) (hn : b ≠ 0)
    (h : QS P ops K rest (i + 1) ⟨n, (d, .sc (.int k (k.wrap (a.tdiv b)))) :: tmps, objs, m, mods⟩) : QS P ops K (o :: rest) i ⟨n, tmps, objs, m, mods⟩ :=
  qs_quo hw ho hx hy hdst (by simp only [dstOK, hdst]; exact hd) hn h

/-! ### An operation that is wanted -/

def QW (P : Program) (ops : Array Oper) (K : Ex → St → Prop) (o : Oper) (rest : List Oper) (i : Nat) (σ : St) : Prop := wantA ops σ o = some true → QS P ops K (o :: rest) i σ

theorem x_go {σ : St} (hw : wantA ops σ o = some true) (h : QW P ops K o rest i σ) : QS P ops K (o :: rest) i σ := h hw

theorem w_one (hF : FOK P F) {v : V} (hv : qv F ⟨n, tmps, objs, m, mods⟩ [] o.op = some v) (hdst : o.dst = some d) (hd : Nat.blt d n = true)
    (h : QS P ops K rest (i + 1) ⟨n, (d, v) :: tmps, objs, m, mods⟩) : QW P ops K o rest i ⟨n, tmps, objs, m, mods⟩ := fun hw => x_one hF hw hv hdst hd h

theorem w_box {t : TypeId} {x : Operand} {q : V} {l : List V} {k : Nat} {objs' : Objs} {s : Nat} (ho : o.op = .box t x) (hx : evalV ⟨n, tmps, objs, m, mods⟩ x = some q) (hl : forceL (cellsV q) some = some l) (hq : l.all V.one = true)
    (hdst : o.dst = some d) (hd : Nat.blt d n = true) (hk : pickN few objs.length = some k) (hs : pickN few l.length = some s) (hO : forceL (objs ++ [some ⟨s, [l]⟩]) some = some objs')
    (h : QS P ops K rest (i + 1) ⟨n, (d, .ptr k 0 0) :: tmps, objs', m, mods⟩) : QW P ops K o rest i ⟨n, tmps, objs, m, mods⟩ := fun hw => x_box hw ho hx hl hq hdst hd hk hs hO h

theorem w_alloc (hF : FOK P F) {t : TypeId} {ti : TI} {l : List V} {k s : Nat} {objs' : Objs} (ho : o.op = .alloc t) (ht : F t = some ti) (hl : forceL (ti.zero.map V.sc) some = some l) (hz : l.all V.one = true)
    (hdst : o.dst = some d) (hd : Nat.blt d n = true) (hk : pickN few objs.length = some k) (hs : pickN few l.length = some s) (hO : forceL (objs ++ [some ⟨s, [l]⟩]) some = some objs')
    (h : QS P ops K rest (i + 1) ⟨n, (d, .ptr k 0 0) :: tmps, objs', m, mods⟩) : QW P ops K o rest i ⟨n, tmps, objs, m, mods⟩ := fun hw => x_alloc hF hw ho ht hl hz hdst hd hk hs hO h

theorem w_store (hF : FOK P F) {t : TypeId} {ti : TI} {x y : Operand} {k r c : Nat} {ob : Ob} {row row' : List V} {rows' : List (List V)} {objs' : Objs} {q : V} (ho : o.op = .store t x y) (hdst : o.dst = none)
    (hx : evalV ⟨n, tmps, objs, m, mods⟩ x = some (.ptr k r c)) (hy : evalV ⟨n, tmps, objs, m, mods⟩ y = some q) (hone : q.one = true) (ht : F t = some ti) (hs : Nat.beq ti.size 1 = true) (hk : objs[k]? = some (some ob)) (hrow : ob.rows[r]? = some row)
    (hc : Nat.blt c row.length = true) (hmay : may ⟨n, tmps, objs, m, mods⟩ k = true) (h1 : forceL (row.set c q) some = some row') (h2 : forceL (ob.rows.set r row') some = some rows') (h3 : forceL (objs.set k (some ⟨ob.s, rows'⟩)) some = some objs')
    (h : QS P ops K rest (i + 1) ⟨n, tmps, objs', m, mods⟩) : QW P ops K o rest i ⟨n, tmps, objs, m, mods⟩ := fun hw => x_store hF hw ho hdst hx hy hone ht hs hk hrow hc hmay h1 h2 h3 h

theorem w_storeA (hF : FOK P F) {t : TypeId} {ti : TI} {x y : Operand} {k r c : Nat} {ob : Ob} {row l row' : List V} {rows' : List (List V)} {objs' : Objs} (ho : o.op = .store t x y) (hdst : o.dst = none)
    (hx : evalV ⟨n, tmps, objs, m, mods⟩ x = some (.ptr k r c)) (hy : evalV ⟨n, tmps, objs, m, mods⟩ y = some (.agg l)) (hone : l.all V.one = true) (ht : F t = some ti) (hs : Nat.beq ti.size l.length = true) (hk : objs[k]? = some (some ob)) (hrow : ob.rows[r]? = some row)
    (hc : Nat.ble (c + l.length) row.length = true) (hmay : may ⟨n, tmps, objs, m, mods⟩ k = true) (h1 : forceL (putRow row c l) some = some row') (h2 : forceL (ob.rows.set r row') some = some rows') (h3 : forceL (objs.set k (some ⟨ob.s, rows'⟩)) some = some objs')
    (h : QS P ops K rest (i + 1) ⟨n, tmps, objs', m, mods⟩) : QW P ops K o rest i ⟨n, tmps, objs, m, mods⟩ := fun hw => x_storeA hF hw ho hdst hx hy hone ht hs hk hrow hc hmay h1 h2 h3 h

theorem w_pure {args : Array Operand} {ats : Array TypeId} {fid : FuncId} {fn : Func} {l : List V} {v : V} (hc : QPure P fid l v) (hfn : P.funcs[fid]? = some fn)
    (ho : o.op = .call { callee := .value (.func fid), args := args, argTypes := ats }) (hl : evalL ⟨n, tmps, objs, m, mods⟩ args.toList = some l)
    (hb : fn.body.isNone = false) (hn : (fn.name == "runtime.NumGoroutine") = false) (hids : V.idsLtL 0 l = true) (hdst : o.dst = some d) (hd : Nat.blt d n = true) (h : QS P ops K rest (i + 1) ⟨n, (d, v) :: tmps, objs, m, mods⟩) :
    QW P ops K o rest i ⟨n, tmps, objs, m, mods⟩ := fun hw => x_pure hc hfn hw ho hl hb hn hids hdst hd h

theorem w_rem {x y : Operand} {t u : TypeId} {k : IntKind} {a b : Int} (ho : o.op = .binOp .rem t x y u)
    (hx : evalV ⟨n, tmps, objs, m, mods⟩ x = some (.sc (.int k a))) (hy : evalV ⟨n, tmps, objs, m, mods⟩ y = some (.sc (.int k b))) (hdst : o.dst = some d) (hd : Nat.blt d n = true) (hn : b ≠ 0)
    (h : QS P ops K rest (i + 1) ⟨n, (d, .sc (.int k (a.tmod b))) :: tmps, objs, m, mods⟩) : QW P ops K o rest i ⟨n, tmps, objs, m, mods⟩ := fun hw => x_rem hw ho hx hy hdst hd hn h

theorem w_quo {x y : Operand} {t u : TypeId} {k : IntKind} {a b : Int} (ho : o.op = .binOp .quo t x y u)
    (hx : evalV ⟨n, tmps, objs, m, mods⟩ x = some (.sc (.int k a))) (hy : evalV ⟨n, tmps, objs, m, mods⟩ y = some (.sc (.int k b))) (hdst : o.dst = some d) (hd : Nat.blt d n = true) (hn : b ≠ 0)
    (h : QS P ops K rest (i + 1) ⟨n, (d, .sc (.int k (k.wrap (a.tdiv b)))) :: tmps, objs, m, mods⟩) : QW P ops K o rest i ⟨n, tmps, objs, m, mods⟩ := fun hw => x_quo hw ho hx hy hdst hd hn h

/-! ### The same in a region whose order is drawn -/

def readyL (ops : Array Oper) (bs : List Bool) : List Nat :=
  (List.range ops.toList.length).filter fun i => !bs.getD i true && ((ops.toList[i]?).map fun o => o.after.toList.all fun e => !Region.binds .any e || bs.getD e.on false).getD false

theorem readyL_eq (ops : Array Oper) (bs : List Bool) : Region.ready .any ops bs.toArray = readyL ops bs := by
  unfold Region.ready readyL
  simp only [Array.length_toList, Array.getElem?_toList]
  congr 1
  funext i
  simp [List.getD_eq_getElem?_getD, Array.all_toList]

def XA (P : Program) (ops : Array Oper) (K : Ex → St → Prop) (rm : List Nat) (fuel : Nat) (bs : List Bool) (σ : St) : Prop := QA P ops K rm fuel bs.toArray σ

theorem x_draw {id fuel : Nat} {bs : List Bool} (rm : List Nat) (hm : P.follows .mixedOrders = true) (hfu : pickN few ops.toList.length = some fuel) (hbs : forceL (List.replicate fuel false) some = some bs) (h : XA P ops K rm fuel bs σ) :
    QC P (.region id ops true) σ K := by
  have hfu := plainN hfu
  have hbs := plainL hbs
  subst hfu hbs
  refine q_region_draw rm hm ?_
  unfold XA at h
  simpa using h

section
variable {rm : List Nat} {fuel j : Nat} {bs bs' : List Bool}

theorem set_eq (bs : List Bool) (j : Nat) : bs.toArray.setIfInBounds j true = (bs.set j true).toArray := by simp

theorem xa_quiet (at_ : Nat) (hF : FOK P F) {v : V} (hr : (readyL ops bs)[at_]? = some j) (hi : ops[j]? = some o) (hw : wantA ops ⟨n, tmps, objs, m, mods⟩ o = some true) (hv : qv F ⟨n, tmps, objs, m, mods⟩ rm o.op = some v)
    (hs : Region.noSelect ops = true) (hf : Region.free .any ops bs.toArray j = true) (hdst : o.dst = some d) (hd : Nat.blt d n = true)
    (hbs : forceL (bs.set j true) some = some bs') (h : XA P ops K rm fuel bs' ⟨n, (d, v) :: tmps, objs, m, mods⟩) : XA P ops K rm (fuel + 1) bs ⟨n, tmps, objs, m, mods⟩ := by
  have hbs := plainL hbs
  subst hbs
  exact qa_take hi hs hf (by rw [readyL_eq]; simpa using List.mem_of_getElem? hr) (.inl ⟨hw, qv_sound hF hv⟩) (by simp only [dstOK, hdst]; exact hd) (by rw [hdst, set_eq]; exact h)

theorem xa_skip (at_ : Nat) (hr : (readyL ops bs)[at_]? = some j) (hi : ops[j]? = some o) (hw : wantA ops ⟨n, tmps, objs, m, mods⟩ o = some false)
    (hs : Region.noSelect ops = true) (hf : Region.free .any ops bs.toArray j = true) (hdst : o.dst = some d) (hd : Nat.blt d n = true)
    (hbs : forceL (bs.set j true) some = some bs') (h : XA P ops K rm fuel bs' ⟨n, (d, .sc undef) :: tmps, objs, m, mods⟩) : XA P ops K rm (fuel + 1) bs ⟨n, tmps, objs, m, mods⟩ := by
  have hbs := plainL hbs
  subst hbs
  exact qa_take hi hs hf (by rw [readyL_eq]; simpa using List.mem_of_getElem? hr) (.inr ⟨hw, rfl⟩) (by simp only [dstOK, hdst]; exact hd) (by rw [hdst, set_eq]; exact h)

theorem xa_done (hr : readyL ops bs = []) (h : K .normal ⟨n, tmps, objs, m, mods⟩) : XA P ops K rm fuel bs ⟨n, tmps, objs, m, mods⟩ := qa_done (by rw [readyL_eq]; exact hr) h

theorem xa_one (hr : readyL ops bs = [j]) (hi : ops[j]? = some o) (hw : wantA ops ⟨n, tmps, objs, m, mods⟩ o = some true)
    (h : QO P rm o ⟨n, tmps, objs, m, mods⟩ (XA P ops K rm fuel (bs.set j true)) K) : XA P ops K rm (fuel + 1) bs ⟨n, tmps, objs, m, mods⟩ := by
  refine qa_one (by rw [readyL_eq]; exact hr) hi hw ?_
  rw [set_eq]
  exact h

theorem xa_pure {args : Array Operand} {ats : Array TypeId} {fid : FuncId} {fn : Func} {l : List V} {v : V} (hc : QPure P fid l v) (hfn : P.funcs[fid]? = some fn) (hr : readyL ops bs = [j]) (hi : ops[j]? = some o)
    (hw : wantA ops ⟨n, tmps, objs, m, mods⟩ o = some true)
    (ho : o.op = .call { callee := .value (.func fid), args := args, argTypes := ats }) (hl : evalL ⟨n, tmps, objs, m, mods⟩ args.toList = some l)
    (hb : fn.body.isNone = false) (hn : (fn.name == "runtime.NumGoroutine") = false) (hids : V.idsLtL 0 l = true) (hdst : o.dst = some d) (hd : Nat.blt d n = true)
    (hbs : forceL (bs.set j true) some = some bs') (h : XA P ops K rm fuel bs' ⟨n, (d, v) :: tmps, objs, m, mods⟩) : XA P ops K rm (fuel + 1) bs ⟨n, tmps, objs, m, mods⟩ := by
  have hbs := plainL hbs
  subst hbs
  exact xa_one hr hi hw (r_pure hc hfn ho hl hb hn hids hdst (by simp only [dstOK, hdst]; exact hd) h)

theorem xa_slice (hF : FOK P F) {rows : List (List V)} {objs' : Objs} {t : TypeId} {e es eb nn s k : Nat} {te : TI} {z : List Value} {parts : Array (Nat × Operand)} {l : List (Nat × V)} {flat : List V} (hr : readyL ops bs = [j]) (hi : ops[j]? = some o)
    (hw : wantA ops ⟨n, tmps, objs, m, mods⟩ o = some true)
    (ho : o.op = .buildSlice t nn parts) (hl : evalParts ⟨n, tmps, objs, m, mods⟩ parts.toList = some l) (ht : F t = some ⟨s, .slice e es eb, z⟩) (he : F e = some te) (hz : Nat.beq te.zero.length es = true) (hes : Nat.blt 0 (nn * es) = true)
    (hbig : Nat.ble (nn * es) 16777216 = true) (hf : fillV (fun i => some (i * es, es)) ((List.replicate nn (te.zero.map V.sc)).flatten) l = some flat) (hlen : Nat.beq flat.length (nn * es) = true) (hone : flat.all V.one = true)
    (hdst : o.dst = some d) (hd : Nat.blt d n = true) (hk : pickN few objs.length = some k) (hrows : forceL (chunk es nn flat) some = some rows) (hO : forceL (objs ++ [some ⟨es, rows⟩]) some = some objs') (hbs : forceL (bs.set j true) some = some bs')
    (h : XA P ops K rm fuel bs' ⟨n, (d, .sl k 0 nn) :: tmps, objs', m, mods⟩) : XA P ops K rm (fuel + 1) bs ⟨n, tmps, objs, m, mods⟩ := by
  have hbs := plainL hbs
  have hk := plainN hk
  have hO := plainL hO
  have hrows := plainL hrows
  subst hrows hk hO hbs
  exact xa_one hr hi hw (r_slice hF ho hl ht he hz hes hbig hf hlen hone hdst (by simp only [dstOK, hdst]; exact hd) h)
end

/-- Slots and objects that are not looked at any more are given up. -/
def takeT (tmps : List (Nat × V)) : List Nat → List (Nat × V)
  | [] => []
  | t :: ts => match look tmps t with
    | some v => (t, v) :: takeT tmps ts
    | none => takeT tmps ts

theorem look_takeT (tmps : List (Nat × V)) : ∀ (ts : List Nat) (u : Nat) (v : V), look (takeT tmps ts) u = some v → look tmps u = some v
  | [], u, v, h => by simp [takeT, look] at h
  | t :: ts, u, v, h => by
    unfold takeT at h
    split at h
    · rename_i q hq
      unfold look at h
      split at h
      · rename_i e
        have := Nat.eq_of_beq_eq_true e
        subst this
        cases h
        exact hq
      · exact look_takeT tmps ts u v h
    · exact look_takeT tmps ts u v h

theorem V.map_id : ∀ q : V, q.map id = q
  | .sc _ => rfl
  | .ro _ _ => rfl
  | .pro _ => rfl
  | .ptr _ _ _ => rfl
  | .sl _ _ _ => rfl
  | .fn f l => by simp only [V.map]; rw [mapL_id l]
  | .agg l => by simp only [V.map]; rw [mapL_id l]
  | .tup l => by simp only [V.map]; rw [mapL_id l]
  where
  mapL_id : ∀ l : List V, V.mapL id l = l
    | [] => rfl
    | q :: l => by simp only [V.mapL]; rw [V.map_id q, mapL_id l]

def obIn (k : Nat) : Option Ob → Bool
  | none => true
  | some ob => ob.rows.all (V.idsLtL k)

theorem gh_keep {n m k : Nat} {tmps tmps' : List (Nat × V)} {objs objs' : Objs} {mods : List Nat} (ts : List Nat) (kk : Nat) (hk : pickN few kk = some k) (ht : forceL (takeT tmps ts) some = some tmps') (hO : forceL (objs.take k) some = some objs')
    (hm : Nat.ble m k = true) (hle : Nat.ble k objs.length = true) (h1 : tmps'.all (fun p => p.2.idsLt k) = true) (h2 : objs'.all (obIn k) = true) : Gh ⟨n, tmps, objs, m, mods⟩ ⟨n, tmps', objs', m, mods⟩ := by
  have ht := plainL ht
  have hO := plainL hO
  subst ht hO
  simp only [Nat.ble_eq] at hm hle
  have hl : (objs.take k).length = k := by simp; omega
  refine gh_number (σ := ⟨n, tmps, objs, m, mods⟩) id (by rw [hl]; exact hm) (fun j hj => ?_) (fun i j _ _ h => h) (fun j _ => rfl) (fun j h _ => h) ?_ ?_
  · rw [hl] at hj
    show j < objs.length
    omega
  · intro j ob hj
    have hj' : objs[j]? = some (some ob) := by
      rw [List.getElem?_take] at hj
      split at hj
      · exact hj
      · cases hj
    have h3 : obIn k (some ob) = true := List.all_eq_true.mp h2 _ (List.mem_of_getElem? hj)
    simp only [obIn, List.all_eq_true] at h3
    refine ⟨?_, fun row hrow q hq => ?_⟩
    · show objs[j]? = _
      rw [hj']
      simp [Ob.map, show (V.mapL id) = id from funext V.map_id.mapL_id]
    · have := h3 row hrow
      rw [V.idsLtL_eq, List.all_eq_true] at this
      rw [hl]
      exact this q hq
  · intro t v hv
    have h3 := look_takeT _ _ _ _ hv
    rw [V.map_id]
    refine ⟨h3, ?_⟩
    rw [hl]
    have hmem : ∀ (l : List (Nat × V)) (t : Nat) (v : V), look l t = some v → ∃ p ∈ l, p.2 = v := by
      intro l t v
      induction l with
      | nil => intro h; simp [look] at h
      | cons p l ih =>
        obtain ⟨u, q⟩ := p
        intro h
        unfold look at h
        split at h
        · cases h; exact ⟨(u, v), by simp, rfl⟩
        · obtain ⟨p, hp, he⟩ := ih h; exact ⟨p, by simp [hp], he⟩
    obtain ⟨p, hp, he⟩ := hmem _ _ _ hv
    have := List.all_eq_true.mp h1 p hp
    rw [he] at this
    exact this

/-- A loop, whose head keeps the slots ts and the first kk objects. -/
theorem x_loop {c : Code} (I : Nat → St → Prop) (N : Nat) (ts : List Nat) (kk : Nat) {k : Nat} {tmps' : List (Nat × V)} {objs' : Objs} (hk : pickN few kk = some k) (ht : forceL (takeT tmps ts) some = some tmps') (hO : forceL (objs.take k) some = some objs')
    (hm : Nat.ble m k = true) (hle : Nat.ble k objs.length = true) (h1 : tmps'.all (fun p => p.2.idsLt k) = true) (h2 : objs'.all (obIn k) = true) (h0 : I N ⟨n, tmps', objs', m, mods⟩)
    (hr : ∀ n σ, I n σ → QC P c σ (thenK K fun σ' => ∃ σ'' m, Gh σ' σ'' ∧ m < n ∧ I m σ'')) : QC P (.loop c) ⟨n, tmps, objs, m, mods⟩ K :=
  q_loop_g I N ⟨_, gh_keep ts kk hk ht hO hm hle h1 h2, h0⟩ hr

theorem x_round {I : Nat → St → Prop} {N : Nat} (M : Nat) (ts : List Nat) (kk : Nat) {k : Nat} {tmps' : List (Nat × V)} {objs' : Objs} (hk : pickN few kk = some k) (ht : forceL (takeT tmps ts) some = some tmps') (hO : forceL (objs.take k) some = some objs')
    (hm : Nat.ble m k = true) (hle : Nat.ble k objs.length = true) (h1 : tmps'.all (fun p => p.2.idsLt k) = true) (h2 : objs'.all (obIn k) = true) (hlt : M < N) (h0 : I M ⟨n, tmps', objs', m, mods⟩) :
    ∃ σ'' m', Gh ⟨n, tmps, objs, m, mods⟩ σ'' ∧ m' < N ∧ I m' σ'' :=
  ⟨_, M, gh_keep ts kk hk ht hO hm hle h1 h2, hlt, h0⟩

/-- The state by another word that is the same. -/
theorem x_same {todo : List Oper} {σ σ' : St} (he : σ = σ') (h : QS P ops K todo i σ') : QS P ops K todo i σ := by
  subst he
  exact h
end


end Go.Proofs.Ytohchoelhnipmaa.Q
