/- Numbers, signs. -/
import Derived.Test.YtjljgldgkkfckaaDoorMLex2
import Derived.Laws.StandIn
namespace Go.Proofs.YtjljgldgkkfckaaDoor.M
open Go
set_option linter.unusedSimpArgs false
set_option linter.unusedVariables false
variable {ρ : Nat → Value}

/-! ### Where a byte stands in a text -/

theorem qq_indexByte {P : Program} {σ : St} {C : CellP} {o : Oper} {x y : Operand} {ats : Array TypeId} {f : FuncId} {fn : Func} {len n c : Nat} (ho : o.op = .call { callee := .value (.func f), args := #[x, y], argTypes := ats })
    (hf : P.funcs[f]? = some fn) (hname : (fn.name == "runtime.NumGoroutine") = false) (hb : fn.body.isNone = true) (hn : Extern.findNext fn = none) (he : Extern.find fn = some Extern.BytealgIndexByte.indexByte)
    (hx : evalV σ x = .ps len n) (hy : evalV σ y = .int .u8 (.ofNat c)) : QQ ρ P σ C o (.int .i64 (firstIdx (unpack len n) c.toUInt8)) := by
  intro X T a w h
  have e1 := (rep_ps (ev_rep h hx)).1
  have e2 := rep_int (ev_rep h hy)
  refine ⟨_, .pure (.int _ _), fun w' hw hsm => ?_⟩
  have hr := run_callFunc_indexByte (P := P) hf hname hb hn he #[.string (unpack len n), .int .u8 (.ofNat c)] w'
  rw [run_indexByte_string] at hr
  have e3 : a.eval (.func f) = Value.func (Fn.func f) #[] #[] := rfl
  have hr' : (callFunc f #[.string (unpack len n), .int .u8 (c : Int)]).run P w' = .ok (.value (.int .i64 (firstIdx (unpack len n) c.toUInt8))) w' := by
    have h3 : (Int.ofNat c).toNat.toUInt8 = c.toUInt8 := rfl
    rw [h3] at hr
    exact hr
  simp [execOp, ho, resolve, e1, e2, e3, Deferred.ofValue, invoke, hr']

attribute [local irreducible] QC QS QFin in
theorem indexByte46 (len n c : Nat) : Says ρ Tryd.prog 46 [.ps len n, .int .u8 (.ofNat c)] (.int .i64 (firstIdx (unpack len n) c.toUInt8)) := by
  intro objs next forb
  refine qcalls_body (fun _ => false) Tryd.func46 rfl ?_
  repeat' first
    | refine q_seq ?_
    | refine q_region ?_
    | refine qs_quiet rfl (qq_move (.inl rfl)) (fun t ht => by cases ht; exact of_decide_eq_true rfl) ?_
    | refine qs_quiet rfl (qq_move (.inr rfl)) (fun t ht => by cases ht; exact of_decide_eq_true rfl) ?_
    | refine qs_quiet rfl (qq_indexByte rfl Tryd.func53 (by kernel_rfl) (by kernel_rfl) (by kernel_rfl) (by kernel_rfl) rfl rfl) (fun t ht => by cases ht; exact of_decide_eq_true rfl) ?_
    | refine qs_done ?_
    | refine q_skip ?_
    | refine q_ret ?_
    | refine fin_tmp rfl rfl rfl ?_
  exact ⟨rfl, rfl, rfl⟩

attribute [local irreducible] forceN forceZ forceB okIf roundsK valK rowAt
set_option maxRecDepth 100000

def signsL : Nat := 18
def signsN : Nat := packL [40, 41, 123, 125, 91, 93, 44, 59, 58, 61, 46, 43, 45, 42, 60, 94, 33, 63]
theorem sign_idx : ∀ c, c < 256 → (decide (0 ≤ firstIdx (unpack signsL signsN) c.toUInt8) == signB c) = true := by decide +kernel

theorem indexByte39 (len n c : Nat) : Says ρ Tryd.prog 39 [.ps len n, .int .u8 (.ofNat c)] (.int .i64 (firstIdx (unpack len n) c.toUInt8)) := by
  have hov : OvOK ρ Tryd.prog 46 (ovF fun | [.ps len n, .int .u8 (.ofNat c)] => some (true, .int .i64 (firstIdx (unpack len n) c.toUInt8)) | _ => none) := ov_says fun args v h => by
    split at h
    · cases h; exact indexByte46 _ _ _
    · cases h
  refine says_run (call := over 46 _ call0) follows globL_ok (over_ok hov call0_ok) (fun q hq => by simp at hq; rcases hq with rfl | rfl <;> exact .flat _ rfl) ?_
  repeat' ((conv => lhs; whnf); first | ((conv => lhs; arg 1; whnf); refine valK_ok ?_) | refine forceB_ok ?_ | refine forceN_add ?_ | refine forceN_sub ?_ | refine forceN_suc ?_ | refine forceN_part ?_ | refine forceN_byte ?_ | refine forceN_ok ?_ | refine forceZ_add ?_ | refine forceZ_mul (by (try simp only [maxK]); omega) ?_ | refine forceZ_sub ?_ | refine forceZ_ok ?_ | refine rowAt_ok (byteRows_get (by (try simp only [maxK]); omega)) ?_ | (apply rowAt_ok; (focus assumption)) | refine br_true (Nat.beq_refl _) ?_ | refine br_true (by assumption) ?_ | refine br_false (by assumption) ?_ | refine br_max (by (try simp only [maxK]); omega) ?_ | refine br_ble_t (by (try simp only [maxK]); omega) ?_ | refine br_ble_f (by (try simp only [maxK]); omega) ?_ | refine br_beq_f (by (try simp only [maxK]); omega) ?_ | refine br_true (by simp only [Bool.and_eq_true, Nat.ble_eq]; (try simp only []); omega) ?_ | (refine br_ble (fun h => ?_) (fun h => ?_) <;> (try simp only [] at h)) | (refine br_beq (fun h => ?_) (fun h => ?_) <;> (try simp only [] at h)) | refine br_split (fun h => ?_) (fun h => ?_) | fail)
  all_goals exact okIf_ok (frz_int rfl)

/-- Of the signs: whether, and if so where. -/
noncomputable def ovIdx : OvT := fun args _ hp nx kr _ => match args with
  | [.ps l n, .int .u8 (.ofNat c)] => must (Nat.beq l signsL) (must (Nat.beq n signsN) (must (Nat.ble c 255) (boolK (signB c) (kr (.int .i64 (.ofNat (firstIdx (unpack signsL signsN) c.toUInt8).toNat)) hp nx) (kr (.int .i64 (.negSucc 0)) hp nx))))
  | _ => .err 1
theorem ovIdx_ok : OvOK ρ Tryd.prog 39 ovIdx := by
  intro args forb hp nx kr kp h
  unfold ovIdx at h
  split at h
  · rename_i l n c
    obtain ⟨h1, g1⟩ := must_inv h
    obtain ⟨h2, g2⟩ := must_inv g1
    obtain ⟨h3, g3⟩ := must_inv g2
    clear h g1 g2
    replace h1 := Nat.eq_of_beq_eq_true h1
    replace h2 := Nat.eq_of_beq_eq_true h2
    replace h3 := Nat.le_of_ble_eq_true h3
    subst h1 h2
    refine (indexByte39 signsL signsN c (absO hp) nx (inL forb)).mono ?_
    rintro o O m ⟨e1, e2, e3⟩
    subst e1 e2 e3
    have hs := sign_idx c (by omega)
    simp only [beq_iff_eq] at hs
    refine ⟨hp, rfl, ?_⟩
    rcases boolK_inv g3 with ⟨g, h⟩ | ⟨g, h⟩
    · rw [g] at hs
      have := of_decide_eq_true hs
      rw [show firstIdx (unpack signsL signsN) c.toUInt8 = Int.ofNat (firstIdx (unpack signsL signsN) c.toUInt8).toNat by
        show _ = (((firstIdx (unpack signsL signsN) c.toUInt8).toNat : Nat) : Int); omega]
      exact h
    · rw [g] at hs
      have h0 := of_decide_eq_false hs
      have : firstIdx (unpack signsL signsN) c.toUInt8 = -1 := by
        unfold firstIdx at h0 ⊢
        split
        · rename_i i e; rw [e] at h0; simp at h0
        · rfl
      rw [this]
      exact h
  · exact Ans.no h

/-! ### Numbers -/

theorem atoi44 (len n : Nat) (h1 : 1 ≤ len) (h9 : len ≤ 9) (hd : runP digitB len n = len) : Says ρ Tryd.prog 44 [.ps len n] (.tup [.int .i64 (.ofNat (numP len n 0)), .sc .nilIface]) := by
  refine says_run (call := call0) follows globL_ok call0_ok (arg1 rfl) ?_
  have hd0 := runP_all hd h1
  have hdig : ∀ i, i < len → 48 ≤ n / 256 ^ i % 256 ∧ n / 256 ^ i % 256 ≤ 57 := fun i hi => by
    have := runP_all hd hi
    simp only [digitB, Bool.and_eq_true, Nat.ble_eq] at this
    exact this
  have hdig0 := hdig 0 h1
  repeat' ((conv => lhs; whnf); first | ((conv => lhs; arg 1; whnf); refine valK_ok ?_) | refine forceB_ok ?_ | refine forceN_add ?_ | refine forceN_sub ?_ | refine forceN_suc ?_ | refine forceN_part ?_ | refine forceN_byte ?_ | refine forceN_ok ?_ | refine forceZ_add ?_ | refine forceZ_mul (by (try simp only [maxK]); omega) ?_ | refine forceZ_sub ?_ | refine forceZ_ok ?_ | refine rowAt_ok (byteRows_get (by (try simp only [maxK]); omega)) ?_ | (apply rowAt_ok; (focus assumption)) | refine br_true (Nat.beq_refl _) ?_ | refine br_true (by assumption) ?_ | refine br_false (by assumption) ?_ | refine br_max (by (try simp only [maxK]); omega) ?_ | refine br_ble_t (by (try simp only [maxK]); omega) ?_ | refine br_ble_f (by (try simp only [maxK]); omega) ?_ | refine br_beq_f (by (try simp only [maxK]); omega) ?_ | refine br_true (by simp only [Bool.and_eq_true, Nat.ble_eq]; (try simp only []); omega) ?_ | (refine br_ble (fun h => ?_) (fun h => ?_) <;> (try simp only [] at h)) | (refine br_beq (fun h => ?_) (fun h => ?_) <;> (try simp only [] at h)) | refine br_split (fun h => ?_) (fun h => ?_) | fail)
  conv => lhs; whnf
  refine loop_ok (fun m tm hp nx => ∃ i a, m = len - i ∧ i ≤ len ∧ a < 10 ^ i ∧ hp = hp0 ∧ numP len n 0 = numP (len - i) (n / 256 ^ i) a ∧ get2 tm 0 = .ps len n ∧ get2 tm 5 = .ps len n ∧ get2 tm 6 = .int .i64 (.ofNat a) ∧ get2 tm 47 = .ro 1 (byteRows len n) ∧ get2 tm 48 = .int .i64 (.ofNat (byteRows len n).length) ∧ get2 tm 49 = .int .i64 (.ofNat i) ∧ get2 tm 255 = .un) (m := len) (by omega)
    ⟨0, 0, rfl, by omega, by simp, rfl, by simp, rfl, rfl, rfl, rfl, rfl, rfl, rfl⟩ ?_
  rintro m tm hp nx ⟨i, a, rfl, hi, ha, rfl, hv, e0, e5, e6, e47, e48, e49, e255⟩ k hk
  (obtain ⟨y0, y1, y2, y3, y4, y5, y6, y7, y8, y9, y10, y11, y12, y13, y14, y15⟩ := tm; obtain ⟨x0, x1, x2, x3, x4, x5, x6, x7, x8, x9, x10, x11, x12, x13, x14, x15⟩ := y0; obtain ⟨x16, x17, x18, x19, x20, x21, x22, x23, x24, x25, x26, x27, x28, x29, x30, x31⟩ := y1; obtain ⟨x32, x33, x34, x35, x36, x37, x38, x39, x40, x41, x42, x43, x44, x45, x46, x47⟩ := y2; obtain ⟨x48, x49, x50, x51, x52, x53, x54, x55, x56, x57, x58, x59, x60, x61, x62, x63⟩ := y3; obtain ⟨x64, x65, x66, x67, x68, x69, x70, x71, x72, x73, x74, x75, x76, x77, x78, x79⟩ := y4; obtain ⟨x240, x241, x242, x243, x244, x245, x246, x247, x248, x249, x250, x251, x252, x253, x254, x255⟩ := y15)
  cases e0
  cases e5
  cases e6
  cases e47
  cases e48
  cases e49
  cases e255
  have hpow : 10 ^ i ≤ 10 ^ 9 := Nat.pow_le_pow_right (by omega) (by omega)
  have hbl := byteRows_length len n
  have hdi := hdig i
  have hst := fun h => @numP_step i len n a h
  by_cases hlt : i < len
  · have hdi := hdi hlt
    have hst := hst hlt
    clear hdig
    repeat' ((conv => lhs; whnf); first | ((conv => lhs; arg 1; whnf); refine valK_ok ?_) | refine forceB_ok ?_ | refine forceN_add ?_ | refine forceN_sub ?_ | refine forceN_suc ?_ | refine forceN_part ?_ | refine forceN_byte ?_ | refine forceN_ok ?_ | refine forceZ_add ?_ | refine forceZ_mul (by (try simp only [maxK]); omega) ?_ | refine forceZ_sub ?_ | refine forceZ_ok ?_ | refine rowAt_ok (byteRows_get (by (try simp only [maxK]); omega)) ?_ | (apply rowAt_ok; (focus assumption)) | refine br_true (Nat.beq_refl _) ?_ | refine br_true (by assumption) ?_ | refine br_false (by assumption) ?_ | refine br_max (by (try simp only [maxK]); omega) ?_ | refine br_ble_t (by (try simp only [maxK]); omega) ?_ | refine br_ble_f (by (try simp only [maxK]); omega) ?_ | refine br_beq_f (by (try simp only [maxK]); omega) ?_ | refine br_true (by simp only [Bool.and_eq_true, Nat.ble_eq]; (try simp only []); omega) ?_ | (refine br_ble (fun h => ?_) (fun h => ?_) <;> (try simp only [] at h)) | (refine br_beq (fun h => ?_) (fun h => ?_) <;> (try simp only [] at h)) | refine br_split (fun h => ?_) (fun h => ?_) | fail)
    conv => lhs; whnf
    refine hk _ _ _ _ (by omega) ⟨i + 1, _, rfl, by omega, ?_, rfl, hv.trans hst, rfl, rfl, rfl, rfl, rfl, rfl, rfl⟩
    rw [Nat.pow_succ]
    omega
  · repeat' ((conv => lhs; whnf); first | ((conv => lhs; arg 1; whnf); refine valK_ok ?_) | refine forceB_ok ?_ | refine forceN_add ?_ | refine forceN_sub ?_ | refine forceN_suc ?_ | refine forceN_part ?_ | refine forceN_byte ?_ | refine forceN_ok ?_ | refine forceZ_add ?_ | refine forceZ_mul (by (try simp only [maxK]); omega) ?_ | refine forceZ_sub ?_ | refine forceZ_ok ?_ | refine rowAt_ok (byteRows_get (by (try simp only [maxK]); omega)) ?_ | (apply rowAt_ok; (focus assumption)) | refine br_true (Nat.beq_refl _) ?_ | refine br_true (by assumption) ?_ | refine br_false (by assumption) ?_ | refine br_max (by (try simp only [maxK]); omega) ?_ | refine br_ble_t (by (try simp only [maxK]); omega) ?_ | refine br_ble_f (by (try simp only [maxK]); omega) ?_ | refine br_beq_f (by (try simp only [maxK]); omega) ?_ | refine br_true (by simp only [Bool.and_eq_true, Nat.ble_eq]; (try simp only []); omega) ?_ | (refine br_ble (fun h => ?_) (fun h => ?_) <;> (try simp only [] at h)) | (refine br_beq (fun h => ?_) (fun h => ?_) <;> (try simp only [] at h)) | refine br_split (fun h => ?_) (fun h => ?_) | fail)
    refine okIf_ok (frz_cons (frz_int ?_) (frz_cons (.flat _ rfl) frz_nil))
    rw [hv, show len - i = 0 by omega]
    rfl

theorem atoi (len n : Nat) (h1 : 1 ≤ len) (h9 : len ≤ 9) (hd : runP digitB len n = len) : Says ρ Tryd.prog 38 [.ps len n] (.tup [.int .i64 (.ofNat (numP len n 0)), .sc .nilIface]) := by
  have hov : OvOK ρ Tryd.prog 44 (ovF fun | [.ps len n] => some (Nat.ble 1 len && Nat.ble len 9 && Nat.beq (runP digitB len n) len, .tup [.int .i64 (.ofNat (numP len n 0)), .sc .nilIface]) | _ => none) := ov_says fun args v h => by
    split at h
    · injection h with h
      injection h with g1 g2
      subst g2
      simp only [Bool.and_eq_true, Nat.ble_eq, Nat.beq_eq] at g1
      exact atoi44 _ _ g1.1.1 g1.1.2 g1.2
    · cases h
  have hc : (Nat.ble 1 len && Nat.ble len 9 && Nat.beq (runP digitB len n) len) = true := by simp only [Bool.and_eq_true, Nat.ble_eq, Nat.beq_eq]; exact ⟨⟨h1, h9⟩, hd⟩
  refine says_run (call := over 44 _ call0) follows globL_ok (over_ok hov call0_ok) (arg1 rfl) ?_
  repeat' ((conv => lhs; whnf); first | ((conv => lhs; arg 1; whnf); refine valK_ok ?_) | refine forceB_ok ?_ | refine forceN_add ?_ | refine forceN_sub ?_ | refine forceN_suc ?_ | refine forceN_part ?_ | refine forceN_byte ?_ | refine forceN_ok ?_ | refine forceZ_add ?_ | refine forceZ_mul (by (try simp only [maxK]); omega) ?_ | refine forceZ_sub ?_ | refine forceZ_ok ?_ | refine rowAt_ok (byteRows_get (by (try simp only [maxK]); omega)) ?_ | (apply rowAt_ok; (focus assumption)) | refine br_true (Nat.beq_refl _) ?_ | refine br_true (by assumption) ?_ | refine br_false (by assumption) ?_ | refine br_max (by (try simp only [maxK]); omega) ?_ | refine br_ble_t (by (try simp only [maxK]); omega) ?_ | refine br_ble_f (by (try simp only [maxK]); omega) ?_ | refine br_beq_f (by (try simp only [maxK]); omega) ?_ | refine br_true (by simp only [Bool.and_eq_true, Nat.ble_eq]; (try simp only []); omega) ?_ | (refine br_ble (fun h => ?_) (fun h => ?_) <;> (try simp only [] at h)) | (refine br_beq (fun h => ?_) (fun h => ?_) <;> (try simp only [] at h)) | refine br_split (fun h => ?_) (fun h => ?_) | fail)
  all_goals exact okIf_ok (frz_cons (frz_int rfl) (frz_cons (.flat _ rfl) frz_nil))

noncomputable def ovAtoi : OvT := ovF fun
  | [.ps len n] => some (Nat.ble 1 len && Nat.ble len 9 && Nat.beq (runP digitB len n) len, .tup [.int .i64 (.ofNat (numP len n 0)), .sc .nilIface])
  | _ => none
theorem ovAtoi_ok : OvOK ρ Tryd.prog 38 ovAtoi := ov_says fun args v h => by
  split at h
  · injection h with h
    injection h with g1 g2
    subst g2
    simp only [Bool.and_eq_true, Nat.ble_eq, Nat.beq_eq] at g1
    exact atoi _ _ g1.1.1 g1.1.2 g1.2
  · cases h

end Go.Proofs.YtjljgldgkkfckaaDoor.M
