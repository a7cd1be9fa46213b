/- Quiet operations, as the kernel runs them: conversions, parts, structs, and which is which. -/
import Derived.Test.YtjljgldgkkfckaaDoorMEb
import Derived.Test.YtjljgldgkkfckaaDoorMBytes
namespace Go.Proofs.YtjljgldgkkfckaaDoor.M
open Go Go.RowKit
set_option linter.unusedSimpArgs false
set_option linter.unusedVariables false

variable {ρ : Nat → Value} {P : Program}

/-! ### Conversions -/

noncomputable def wrapK (k : IntKind) (n : Int) (f : Int → Ans) : Ans :=
  Int.rec (motive := fun _ => AnsT) (fun m => boolK (Nat.ble m (maxK k)) (f (.ofNat m)) (forceZ (k.wrap (.ofNat m)) f)) (fun m => forceZ (k.wrap (.negSucc m)) f) n
theorem wrapK_inv {k : IntKind} {n : Int} {f : Int → Ans} (h : wrapK k n f = .ok) : f (k.wrap n) = .ok := by
  cases n with
  | ofNat m =>
    rcases boolK_inv h with ⟨h1, h9⟩ | ⟨h1, h9⟩
    · rw [wrap_small (Nat.le_of_ble_eq_true h1)]; exact h9
    · rwa [forceZ_eq] at h9
  | negSucc m =>
    have h : forceZ (k.wrap (.negSucc m)) f = .ok := h
    rwa [forceZ_eq] at h

noncomputable def sizeOne (l : List V) (f : V → Ans) : Ans := List.rec (motive := fun _ => AnsT) (.err 62) (fun q t _ => List.rec (motive := fun _ => AnsT) (f q) (fun _ _ _ => .err 62) t) l
theorem sizeOne_inv {l : List V} {f : V → Ans} (h : sizeOne l f = .ok) : ∃ q, l = [q] ∧ f q = .ok := by
  cases l with
  | nil => exact Ans.no h
  | cons q t =>
    cases t with
    | nil => exact ⟨q, rfl, h⟩
    | cons _ _ => exact Ans.no h

/-- Bytes of a slice's rows, as a number. -/
noncomputable def byteK (ob : KOb) (l : Nat) : Nat → (Nat → Ans) → Ans :=
  Nat.rec (motive := fun _ => Nat → (Nat → Ans) → Ans) (fun _ k => k Nat.zero) (fun _ ih off k => ob.row off fun row => sizeOne row fun q => q.onInt fun kd n => onNat n fun b => must (Nat.beq (numK kd) 4) (must (Nat.ble b 255) (ih (Nat.succ off) fun m => forceN (Nat.add b (Nat.mul 256 m)) k))) l
theorem byteK_inv {ob : KOb} {x : Ob} (hx : absK ob = some x) : ∀ {l off : Nat} {k : Nat → Ans}, byteK ob l off k = .ok → ∃ bs : List UInt8, bs.length = l ∧ (∀ (i : Nat) (b : UInt8), bs[i]? = some b → x.row (off + i) = some [.int .u8 b.toNat]) ∧ k (packL bs) = .ok
  | 0, off, k, h => ⟨[], rfl, by simp, h⟩
  | l + 1, off, k, h => by
    have h : (ob.row off fun row => sizeOne row fun q => q.onInt fun kd n => onNat n fun b => must (Nat.beq (numK kd) 4) (must (Nat.ble b 255) (byteK ob l (Nat.succ off) fun m => forceN (Nat.add b (Nat.mul 256 m)) k))) = .ok := h
    obtain ⟨y, row, h1, h2, h⟩ := KOb.row_inv h
    rw [hx] at h1
    cases h1
    obtain ⟨q, h3, h⟩ := sizeOne_inv h
    obtain ⟨kd, n, h4, h⟩ := V.onInt_inv h
    obtain ⟨b, h5, h⟩ := onNat_inv h
    obtain ⟨h6, h⟩ := must_inv h
    obtain ⟨h7, h⟩ := must_inv h
    have hk : kd = .u8 := numK_inj (k' := .u8) h6
    have hb := Nat.le_of_ble_eq_true h7
    obtain ⟨bs, h8, h9, h⟩ := byteK_inv hx h
    rw [forceN_eq] at h
    have e : (UInt8.ofNat b).toNat = b := by simp; omega
    refine ⟨UInt8.ofNat b :: bs, by simp [h8], fun i c hi => ?_, ?_⟩
    · cases i with
      | zero =>
        simp at hi
        subst hi
        rw [h3, h4, h5, hk] at h2
        rw [e]
        exact h2
      | succ i =>
        simp at hi
        rw [show off + (i + 1) = Nat.succ off + i by omega]
        exact h9 i c hi
    · show k ((UInt8.ofNat b).toNat + 256 * packL bs) = .ok
      rw [e]
      exact h

noncomputable def qConv (P : Program) (i : Nat) (t u : TypeId) (x : Operand) : QOp := match tiOf P t, tiOf P u with
  | some ⟨_, .int _, _⟩, some ⟨_, .int kd, _⟩ => q1 x fun v _ hs k => v.onInt fun _ n => wrapK kd n fun m => k (.int kd m) hs
  | some ⟨_, .slice e _ _, _⟩, some ⟨_, .string, _⟩ => match P.underlying e with
    | some (.int .u8) => q1 x fun v hp hs k => v.onSl (fun j off len _ => (acc4 KOb j).get hp fun ob => ob.ofS 1 (byteK ob len off fun n => k (.ps len n) ((i, ⟨j, off, len, 0, 1⟩) :: hs))) (fun _ => .err 121)
    | _ => qbad 122
  | _, _ => qbad 123
theorem qConv_spec {i : Nat} {o : Oper} {t u : TypeId} {x : Operand} (ho : o.op = .convert t u x) : QSpec ρ P i o (qConv P i t u x) := by
  unfold qConv
  split
  · rename_i h1 h2
    exact q1_spec fun fr tm hp nx hs k vx hx h => by
      obtain ⟨k', n, rfl, h7⟩ := V.onInt_inv h
      exact ⟨_, wrapK_inv (f := fun m => k (.int _ m) hs) h7, fun C => qq_convert_int ho hx (tiOf_ok h1) rfl (tiOf_ok h2) rfl⟩
  · rename_i h1 h2
    split
    · rename_i he
      intro fr tm hp nx hs k h
      have h := opd_inv (k := fun v => v.onSl (fun j off len _ => (acc4 KOb j).get hp fun ob => ob.ofS 1 (byteK ob len off fun n => k (.ps len n) ((i, ⟨j, off, len, 0, 1⟩) :: hs))) (fun _ => .err 121)) h fr hp nx
      rcases V.onSl_inv h with ⟨j, off, len, full, hx, h⟩ | ⟨_, _, h⟩
      · obtain ⟨ob, h3, h⟩ := ob_inv h
        obtain ⟨⟨y, h4, h5⟩, h⟩ := KOb.ofS_inv h
        obtain ⟨bs, h6, h7, h⟩ := byteK_inv h4 h
        exact ⟨_, [⟨j, off, len, 0, 1⟩], h, qq_bytesString ho hx (fun i hi => ⟨_, List.mem_cons_self, rfl, Nat.le_add_right _ _, Nat.add_lt_add_left hi _, Nat.le_refl _, Nat.lt_succ_self _⟩) (h3.trans h4) h5 h6 h7 (slice_of (tiOf_ok h1) rfl).1 he (string_of (tiOf_ok h2) rfl)⟩
      · exact Ans.no h
    · exact qspec_bad
  · exact qspec_bad

/-! ### Parts -/

noncomputable def lowK (x : Option Operand) (tm : Tm) (d : Nat) (k : Nat → Ans) : Ans := match x with
  | none => k d
  | some x => (opd x).get tm fun v => v.onInt fun _ n => onNat n k
theorem lowK_inv {x : Option Operand} {tm : Tm} {k : Nat → Ans} (h : lowK x tm 0 k = .ok) (fr : Fr) (hp : Hp) (nx : Nat) : ∃ l, lowV (absS fr tm hp nx) x = some l ∧ k l = .ok := by
  cases x with
  | none => exact ⟨0, rfl, h⟩
  | some x =>
    obtain ⟨kd, n, h1, h⟩ := V.onInt_inv (opd_inv (k := fun v => v.onInt fun _ n => onNat n k) h fr hp nx)
    obtain ⟨l, h2, h⟩ := onNat_inv h
    refine ⟨l, ?_, h⟩
    unfold lowV
    simp only [h1, h2]
theorem highK_inv {x : Option Operand} {tm : Tm} {d : Nat} {k : Nat → Ans} (h : lowK x tm d k = .ok) (fr : Fr) (hp : Hp) (nx : Nat) : ∃ l, highV (absS fr tm hp nx) d x = some l ∧ k l = .ok := by
  cases x with
  | none => exact ⟨d, rfl, h⟩
  | some x =>
    obtain ⟨kd, n, h1, h⟩ := V.onInt_inv (opd_inv (k := fun v => v.onInt fun _ n => onNat n k) h fr hp nx)
    obtain ⟨l, h2, h⟩ := onNat_inv h
    refine ⟨l, ?_, h⟩
    unfold highV
    simp only [h1, h2]

noncomputable def boundK (low high : Option Operand) (tm : Tm) (len : Nat) (f : Nat → Nat → Ans) : Ans := lowK low tm 0 fun l => lowK high tm len fun h => must (Nat.ble l h) (must (Nat.ble h len) (f l h))
theorem boundK_inv {low high : Option Operand} {tm : Tm} {len : Nat} {f : Nat → Nat → Ans} (h : boundK low high tm len f = .ok) (fr : Fr) (hp : Hp) (nx : Nat) :
    ∃ a b, lowV (absS fr tm hp nx) low = some a ∧ highV (absS fr tm hp nx) len high = some b ∧ a ≤ b ∧ b ≤ len ∧ f a b = .ok := by
  obtain ⟨a, h1, h⟩ := lowK_inv h fr hp nx
  obtain ⟨b, h2, h⟩ := highK_inv h fr hp nx
  obtain ⟨h3, h⟩ := must_inv h
  obtain ⟨h4, h⟩ := must_inv h
  exact ⟨a, b, h1, h2, Nat.le_of_ble_eq_true h3, Nat.le_of_ble_eq_true h4, h⟩

/-- So many rows, from a place on. -/
noncomputable def takeK (n : Nat) : List (List V) → (List (List V) → Ans) → Ans :=
  Nat.rec (motive := fun _ => List (List V) → (List (List V) → Ans) → Ans) (fun _ k => k []) (fun _ ih l k => List.rec (motive := fun _ => AnsT) (k []) (fun x t _ => ih t fun t' => k (x :: t')) l) n
theorem takeK_inv : ∀ {n : Nat} {l : List (List V)} {k : List (List V) → Ans}, takeK n l k = .ok → k (l.take n) = .ok
  | 0, l, k, h => (by rw [List.take_zero]; exact h)
  | n + 1, [], k, h => h
  | n + 1, x :: t, k, h => takeK_inv (n := n) (l := t) (k := fun t' => k (x :: t')) h
noncomputable def partK (a n : Nat) : List (List V) → (List (List V) → Ans) → Ans :=
  Nat.rec (motive := fun _ => List (List V) → (List (List V) → Ans) → Ans) (fun l k => takeK n l k) (fun _ ih l k => List.rec (motive := fun _ => AnsT) (k []) (fun _ t _ => ih t k) l) a
theorem partK_inv : ∀ {a n : Nat} {l : List (List V)} {k : List (List V) → Ans}, partK a n l k = .ok → k ((l.drop a).take n) = .ok
  | 0, n, l, k, h => takeK_inv h
  | a + 1, n, [], k, h => by simpa using (show k [] = .ok from h)
  | a + 1, n, x :: t, k, h => by rw [List.drop_succ_cons]; exact partK_inv (a := a) h

noncomputable def qSlice (P : Program) (t : TypeId) (x : Operand) (low high : Option Operand) : QOp := match tiOf P t with
  | some ⟨_, .string, _⟩ => ⟨fun tm hp hs k => (opd x).get tm fun v => v.onSlPs (fun _ _ _ _ => .err 124) (fun len n => boundK low high tm len fun a b => forceN (Nat.sub b a) fun m => forceN (Nat.mod (Nat.div n (Nat.pow 256 a)) (Nat.pow 256 m)) fun c => k (.ps m c) hs) (fun _ => .err 124)⟩
  | some ⟨_, .slice _ es _, _⟩ => ⟨fun tm hp hs k => (opd x).get tm fun v => v.onNilS
      (fun j off len full => boundK low high tm len fun a b => (acc4 KOb j).get hp fun ob => ob.ofS es (forceN (Nat.add off a) fun off' => forceN (Nat.sub b a) fun m => forceB (full && Nat.beq b len) fun f => k (.sl j off' m f) hs))
      (fun s rows => must (Nat.beq s es) (forceN rows.length fun len => boundK low high tm len fun a b => partK a (Nat.sub b a) rows fun rows' => k (.ro s rows') hs)) (fun w => must (isNilSl w) (boundK low high tm 0 fun _ _ => k v hs))⟩
  | _ => qbad 126
theorem qSlice_spec {i : Nat} {o : Oper} {t : TypeId} {x : Operand} {low high : Option Operand} (ho : o.op = .slice t x low high none) : QSpec ρ P i o (qSlice P t x low high) := by
  unfold qSlice
  split
  · rename_i hti
    exact qspec_of fun fr tm hp nx hs k h => by
      have h := opd_inv (k := fun v => v.onSlPs (fun _ _ _ _ => .err 124) (fun len n => boundK low high tm len fun a b => forceN (Nat.sub b a) fun m => forceN (Nat.mod (Nat.div n (Nat.pow 256 a)) (Nat.pow 256 m)) fun c => k (.ps m c) hs) (fun _ => .err 124)) h fr hp nx
      rcases V.onSlPs_inv h with ⟨_, _, _, _, _, h⟩ | ⟨len, n, hx, h⟩ | ⟨_, _, h⟩
      · exact Ans.no h
      · obtain ⟨a, b, h1, h2, h3, h4, h⟩ := boundK_inv h fr hp nx
        rw [forceN_eq, forceN_eq] at h
        exact ⟨_, h, fun C => qq_slicePs ho hx (tiOf_ok hti) rfl h1 h2 h3 h4⟩
      · exact Ans.no h
  · rename_i es _ _ hti
    exact qspec_of fun fr tm hp nx hs k h => by
      have h := opd_inv (k := fun v => v.onNilS
        (fun j off len full => boundK low high tm len fun a b => (acc4 KOb j).get hp fun ob => ob.ofS es (forceN (Nat.add off a) fun off' => forceN (Nat.sub b a) fun m => forceB (full && Nat.beq b len) fun f => k (.sl j off' m f) hs))
        (fun s rows => must (Nat.beq s es) (forceN rows.length fun len => boundK low high tm len fun a b => partK a (Nat.sub b a) rows fun rows' => k (.ro s rows') hs)) (fun w => must (isNilSl w) (boundK low high tm 0 fun _ _ => k v hs))) h fr hp nx
      rcases V.onNilS_inv h with ⟨j, off, len, full, hx, h⟩ | ⟨s, rows, hx, h⟩ | ⟨w, hx, h⟩
      · obtain ⟨a, b, h1, h2, h3, h4, h⟩ := boundK_inv h fr hp nx
        obtain ⟨ob, h5, h⟩ := ob_inv h
        obtain ⟨⟨y, h6, h7⟩, h⟩ := KOb.ofS_inv h
        rw [forceN_eq, forceN_eq, forceB_eq] at h
        exact ⟨_, h, fun C => qq_sliceSl ho hx (tiOf_ok hti) rfl (h5.trans h6) h7 h1 h2 h3 h4⟩
      · obtain ⟨h0, g1⟩ := must_inv h
        have h5 := Nat.eq_of_beq_eq_true h0
        subst h5
        rw [forceN_eq] at g1
        obtain ⟨a, b, h1, h2, h3, h4, g2⟩ := boundK_inv g1 fr hp nx
        exact ⟨_, partK_inv (k := fun rows' => k (.ro s rows') hs) g2, fun C => qq_sliceRo ho hx (tiOf_ok hti) rfl h1 h2 h3 h4⟩
      · obtain ⟨h0, h⟩ := must_inv h
        have hw := isNilSl_ok h0
        subst hw
        obtain ⟨a, b, h1, h2, h3, h4, h⟩ := boundK_inv h fr hp nx
        have hb : b = 0 := by omega
        subst hb
        have ha : a = 0 := by omega
        subst ha
        rw [hx] at h
        exact ⟨_, h, fun C => qq_sliceNil ho hx (tiOf_ok hti) rfl h1 h2⟩
  · exact qspec_bad

/-! ### Interfaces -/

noncomputable def qIface (P : Program) (t : TypeId) (x : Operand) : QOp := match isIface P t with
  | some false => q1 x fun v _ hs k => k (.ifc t v) hs
  | _ => qbad 127
theorem qIface_spec {i : Nat} {o : Oper} {t : TypeId} {x : Operand} (ho : o.op = .makeInterface t x) : QSpec ρ P i o (qIface P t x) := by
  unfold qIface
  split
  · rename_i ht
    exact q1_spec fun fr tm hp nx hs k vx hx h => ⟨_, h, fun C => hx ▸ qq_makeInterface ho ht⟩
  · exact qspec_bad

noncomputable def qAssert (P : Program) (t : TypeId) (x : Operand) : QOp := match isIface P t with
  | some false => q1 x fun v _ hs k => v.onNilI (fun u q => boolK (Nat.beq u t) (k (.tup [q, .bool true]) hs) (optK (zeroV P t) fun z => k (.tup [z, .bool false]) hs)) (fun w => must (isNilIf w) (optK (zeroV P t) fun z => k (.tup [z, .bool false]) hs))
  | _ => qbad 128
theorem qAssert_spec {i : Nat} {o : Oper} {t xt : TypeId} {x : Operand} (ho : o.op = .typeAssert x xt t true) : QSpec ρ P i o (qAssert P t x) := by
  unfold qAssert
  split
  · rename_i ht
    exact q1_spec fun fr tm hp nx hs k vx hx h => by
      rcases V.onNilI_inv h with ⟨u, q, rfl, h8⟩ | ⟨w, rfl, h8⟩
      · rcases boolK_inv h8 with ⟨h1, h9⟩ | ⟨h1, h9⟩
        · exact ⟨_, h9, fun C => qq_assert ho hx ht (Nat.eq_of_beq_eq_true h1)⟩
        · obtain ⟨z, h2, h9⟩ := optK_inv h9
          exact ⟨_, h9, fun C => qq_assertNot ho hx ht (beq_false' h1) h2⟩
      · obtain ⟨h1, h9⟩ := must_inv h8
        have hw := isNilIf_ok h1
        subst hw
        obtain ⟨z, h2, h9⟩ := optK_inv h9
        exact ⟨_, h9, fun C => qq_assertNil ho hx ht h2⟩
  · exact qspec_bad

noncomputable def qMin (x y : Operand) : QOp := q2 x y fun v u _ hs k => intsK v u fun kd m n => natZ m n (fun a b => boolK (Nat.ble a b) (k (.int kd (.ofNat a)) hs) (k (.int kd (.ofNat b)) hs)) (.err 129)
theorem qMin_spec {i : Nat} {o : Oper} {x y : Operand} {ats : Array TypeId} (ho : o.op = .call { callee := .builtin .min, args := #[x, y], argTypes := ats }) : QSpec ρ P i o (qMin x y) :=
  q2_spec fun fr tm hp nx hs k vx vy hx hy h => by
    obtain ⟨kd, m, n, rfl, rfl, h7⟩ := intsK_inv h
    rcases natZ_inv h7 with ⟨a, b, rfl, rfl, h9⟩ | h9
    · rcases boolK_inv h9 with ⟨h1, h9⟩ | ⟨h1, h9⟩
      · refine ⟨_, h9, fun C => ?_⟩
        have := qq_min (ρ := ρ) (P := P) (C := C) ho hx hy
        rw [if_neg (by have := Nat.le_of_ble_eq_true h1; show ¬ ((b : Int) < (a : Int)); omega)] at this
        exact this
      · refine ⟨_, h9, fun C => ?_⟩
        have := qq_min (ρ := ρ) (P := P) (C := C) ho hx hy
        rw [if_pos (by have := ble_false h1; show ((b : Int) < (a : Int)); omega)] at this
        exact this
    · exact Ans.no h9

/-! ### Structs -/

noncomputable def lenIs (n : Nat) : List V → Ans → Ans :=
  Nat.rec (motive := fun _ => List V → Ans → Ans) (fun l y => List.rec (motive := fun _ => AnsT) y (fun _ _ _ => .err 63) l) (fun _ ih l y => List.rec (motive := fun _ => AnsT) (.err 63) (fun _ t _ => ih t y) l) n
theorem lenIs_inv : ∀ {n : Nat} {l : List V} {y : Ans}, lenIs n l y = .ok → l.length = n ∧ y = .ok
  | 0, [], _, h => ⟨rfl, h⟩
  | 0, _ :: _, _, h => Ans.no h
  | n + 1, [], _, h => Ans.no h
  | n + 1, q :: l, y, h => by
    obtain ⟨h1, h2⟩ := lenIs_inv (n := n) (l := l) (y := y) h
    exact ⟨by simp [h1], h2⟩

structure Bld where
  run : Tm → List V → (List V → Ans) → Ans
noncomputable def bld (fs : List (Nat × Nat × Bool)) (parts : List (Nat × Operand)) : Bld :=
  List.rec (motive := fun _ => Bld) ⟨fun _ row k => k row⟩ (fun p _ ih => match placeOf fs p.1 with
    | some (off, size) => ⟨fun tm row k => (opd p.2).get tm fun v => v.onCells fun l => lenIs size l (allOne l ((spl off).run row l fun row' => ih.run tm row' k))⟩
    | none => ⟨fun _ _ _ => .err 64⟩) parts
theorem bld_inv {fs : List (Nat × Nat × Bool)} : ∀ {parts : List (Nat × Operand)} {tm : Tm} {row : List V} {k : List V → Ans} (h : (bld fs parts).run tm row k = .ok) (fr : Fr) (hp : Hp) (nx : Nat),
    ∃ row', fillV (placeOf fs) row (evalParts (absS fr tm hp nx) parts) = some row' ∧ k row' = .ok
  | [], tm, row, k, h, fr, hp, nx => ⟨row, rfl, h⟩
  | (i, x) :: parts, tm, row, k, h, fr, hp, nx => by
    have h : (match placeOf fs i with
      | some (off, size) => (⟨fun tm row k => (opd x).get tm fun v => v.onCells fun l => lenIs size l (allOne l ((spl off).run row l fun row' => (bld fs parts).run tm row' k))⟩ : Bld)
      | none => ⟨fun _ _ _ => .err 64⟩).run tm row k = .ok := h
    split at h
    · rename_i off size hpl
      have h := opd_inv (k := fun v => v.onCells fun l => lenIs size l (allOne l ((spl off).run row l fun row' => (bld fs parts).run tm row' k))) h fr hp nx
      rw [V.onCells_eq] at h
      obtain ⟨h1, h⟩ := lenIs_inv h
      obtain ⟨h2, h⟩ := allOne_inv h
      obtain ⟨h3, h⟩ := spl_inv h
      obtain ⟨row', h4, h⟩ := bld_inv h fr hp nx
      refine ⟨row', ?_, h⟩
      unfold evalParts fillV
      simp only [hpl]
      have g1 : Nat.beq (cellsV (evalV (absS fr tm hp nx) x)).length size = true := by rw [h1]; exact Nat.beq_refl _
      have g2 : Nat.ble (off + size) row.length = true := Nat.ble_eq_true_of_le (by omega)
      rw [g1, g2, h2]
      exact h4
    · exact Ans.no h

noncomputable def qBuild (P : Program) (t : TypeId) (parts : List (Nat × Operand)) : QOp := match tiOf P t with
  | some ⟨_, .struct fs, z⟩ => ⟨fun tm _ hs k => (bld fs parts).run tm (z.map cv) fun row => k (.agg row) hs⟩
  | _ => qbad 130
theorem qBuild_spec {i : Nat} {o : Oper} {t : TypeId} {parts : Array (Nat × Operand)} (ho : o.op = .build t parts) : QSpec ρ P i o (qBuild P t parts.toList) := by
  unfold qBuild
  split
  · rename_i hti
    exact qspec_of fun fr tm hp nx hs k h => by
      obtain ⟨row, h1, h⟩ := bld_inv (k := fun row => k (.agg row) hs) h fr hp nx
      exact ⟨_, h, fun C => qq_build ho (tiOf_ok hti) rfl h1⟩
  · exact qspec_bad

/-! ### Which is which -/

theorem arr_of {α : Type} {a : Array α} {l : List α} (h : a.toList = l) : a = l.toArray := by rw [← h]

/-- A builtin that only looks. -/
noncomputable def qcall (P : Program) (c : Call) : Option QOp := match c.callee with
  | .builtin .len => match c.args.toList, c.argTypes.toList with
    | [x], [t] => some (qLen P x t)
    | _, _ => none
  | .builtin .min => match c.args.toList with
    | [x, y] => some (qMin x y)
    | _ => none
  | _ => none
theorem qcall_spec {i : Nat} {o : Oper} {q : QOp} {c : Call} (ho : o.op = .call c) (h : qcall P c = some q) : QSpec ρ P i o q := by
  obtain ⟨callee, args, ats⟩ := c
  unfold qcall at h
  simp only at h
  split at h
  · split at h
    · rename_i x t hx ht
      cases h
      refine qLen_spec ?_
      rw [arr_of hx, arr_of ht] at ho
      exact ho
    · cases h
  · split at h
    · rename_i x y hx
      cases h
      rw [arr_of hx] at ho
      exact qMin_spec ho
    · cases h
  · cases h

/-- An operation that only looks; none: it does more. -/
noncomputable def qop (P : Program) (i : Nat) (o : Oper) : Option QOp := match o.op with
  | .move x => some (qMove x)
  | .assign x => some (qMove x)
  | .pick c x y => some (qPick c x y)
  | .nilCheck x => some (qNil x)
  | .extract x j => some (qExtract x j)
  | .unOp .not _ x => some (qNot x)
  | .makeFunc (.func f) first caps => match first.toList with
    | [] => some (qFn f caps.toList)
    | _ => none
  | .fieldAddr t x j => some (qFieldAddr P t x j)
  | .load t x => some (qLoad P i t x)
  | .field t x j => some (qField P t x j)
  | .indexAddr t x y => some (qIndexAddr P t x y)
  | .index t x y => some (qIndex P t x y)
  | .binOp op t x y _ => some (qBin P op t x y)
  | .convert t u x => match StrBytes P t u || SelfBytes P t u with
    | true => none
    | false => some (qConv P i t u x)
  | .slice t x low high none => some (qSlice P t x low high)
  | .makeInterface t x => some (qIface P t x)
  | .typeAssert x _ t true => some (qAssert P t x)
  | .build t parts => some (qBuild P t parts.toList)
  | .call c => qcall P c
  | _ => none

theorem qop_spec {i : Nat} {o : Oper} {q : QOp} (h : qop P i o = some q) : QSpec ρ P i o q := by
  unfold qop at h
  split at h
  case h_1 h1 => cases h; exact qMove_spec (.inl h1)
  case h_2 h1 => cases h; exact qMove_spec (.inr h1)
  case h_3 h1 => cases h; exact qPick_spec h1
  case h_4 h1 => cases h; exact qNil_spec h1
  case h_5 h1 => cases h; exact qExtract_spec h1
  case h_6 h1 => cases h; exact qNot_spec h1
  case h_7 h1 =>
    split at h
    · rename_i hf
      cases h
      rw [arr_of hf] at h1
      exact qFn_spec h1
    · cases h
  case h_8 h1 => cases h; exact qFieldAddr_spec h1
  case h_9 h1 => cases h; exact qLoad_spec h1
  case h_10 h1 => cases h; exact qField_spec h1
  case h_11 h1 => cases h; exact qIndexAddr_spec h1
  case h_12 h1 => cases h; exact qIndex_spec h1
  case h_13 h1 => cases h; exact qBin_spec h1
  case h_14 h1 =>
    split at h
    · cases h
    · cases h; exact qConv_spec h1
  case h_15 h1 => cases h; exact qSlice_spec h1
  case h_16 h1 => cases h; exact qIface_spec h1
  case h_17 h1 => cases h; exact qAssert_spec h1
  case h_18 h1 => cases h; exact qBuild_spec h1
  case h_19 h1 => exact qcall_spec h1 h
  case h_20 => cases h

end Go.Proofs.YtjljgldgkkfckaaDoor.M
