/- Helps of the laws: a number within others; a text's beginning; words; texts. -/
import Derived.Test.YtjljgldgkkfckaaDoorMLex7
import Derived.KernelRfl
namespace Go.Proofs.YtjljgldgkkfckaaDoor.M
open Go
set_option linter.unusedSimpArgs false
set_option linter.unusedVariables false
variable {ρ : Nat → Value}

section
open Go.RowKit
attribute [local irreducible] QC QS QFin in
theorem within_says (n : Int) (b : Nat) (hb : 1 ≤ b) : Says ρ Tryd.prog 14 [.int .i64 n, .int .i64 (.ofNat b)] (.int .i64 (withinM n (.ofNat b))) := by
  intro objs next forb
  refine qcalls_body (fun _ => false) Tryd.func14 rfl ?_
  repeat' first
    | refine q_seq ?_
    | refine q_region ?_
    | refine qs_quiet rfl (qq_move (.inl rfl)) (fun t ht => by cases ht; exact of_decide_eq_true rfl) ?_
    | refine qs_quiet rfl (qq_move (.inr rfl)) (fun t ht => by cases ht; exact of_decide_eq_true rfl) ?_
    | refine qs_quiet rfl (qq_binI rfl rfl rfl rfl) (fun t ht => by cases ht; exact of_decide_eq_true rfl) ?_
    | refine qs_quiet rfl (qq_rem rfl rfl rfl (by have : Int.ofNat b = (b : Int) := rfl; omega)) (fun t ht => by cases ht; exact of_decide_eq_true rfl) ?_
    | refine qs_done ?_
    | refine q_cond2 rfl (fun hc => ?_) (fun hc => ?_)
    | refine q_skip ?_
    | refine q_ret ?_
    | refine fin_tmp rfl rfl rfl ?_
  · exact absurd (of_decide_eq_true hc) (by have : Int.ofNat b = (b : Int) := rfl; omega)
  all_goals refine ⟨?_, rfl, rfl⟩
  · rename_i h1
    have h2 : n.tmod (Int.ofNat b) < 0 := of_decide_eq_true hc
    unfold withinM
    rw [if_pos h2]
    rfl
  · have h2 : ¬ n.tmod (Int.ofNat b) < 0 := of_decide_eq_false hc
    unfold withinM
    rw [if_neg h2]
    rfl
end

attribute [local irreducible] forceN forceZ forceB okIf roundsK valK rowAt

theorem arg2 {q r : V} (h : q.flat = true) (h2 : r.flat = true) : ∀ x ∈ [q, r], Arg2 [] x x := fun x hx => by simp at hx; rcases hx with rfl | rfl <;> (refine .flat _ ?_; assumption)
set_option maxRecDepth 100000

theorem keepText_says (len n b : Nat) (hl : len ≤ 140737488355328) (hb : b ≤ 140737488355328) : Says ρ Tryd.prog 8 [.ps len n, .int .i64 (.ofNat b)] (.ps (min len b) (n % 256 ^ min len b)) := by
  refine says_run (call := call0) follows globL_ok call0_ok (arg2 rfl rfl) ?_
  repeat' (first | ((conv => lhs; whnf); first | ((conv => lhs; arg 1; whnf); refine valK_ok ?_) | refine forceB_ok ?_ | refine forceN_add ?_ | refine forceN_sub ?_ | refine forceN_suc ?_ | refine forceN_part ?_ | refine forceN_byte ?_ | refine forceN_ok ?_ | refine forceZ_add ?_ | refine forceZ_mul (by (try simp only [maxK]); omega) ?_ | refine forceZ_sub ?_ | refine forceZ_ok ?_ | refine rowAt_ok (byteRows_get (by (try simp only [maxK]); omega)) ?_ | (apply rowAt_ok; (focus assumption)) | refine br_true (Nat.beq_refl _) ?_ | refine br_true (by assumption) ?_ | refine br_false (by assumption) ?_ | refine br_max (by (try simp only [maxK]); omega) ?_ | refine br_ble_t (by (try simp only [maxK]); omega) ?_ | refine br_ble_f (by (try simp only [maxK]); omega) ?_ | refine br_beq_f (by (try simp only [maxK]); omega) ?_ | refine br_true (by simp only [Bool.and_eq_true, Nat.ble_eq]; (try simp only []); omega) ?_ | (refine br_ble (fun h => ?_) (fun h => ?_) <;> (try simp only [] at h)) | (refine br_beq (fun h => ?_) (fun h => ?_) <;> (try simp only [] at h)) | refine br_split (fun h => ?_) (fun h => ?_) | fail) | ((conv => lhs; whnf); first | refine acc4_upd_ok (by omega) ?_ | refine acc4_get_same (by omega) ?_ | refine acc4_get_other (by omega) (by omega) (by omega) ?_ | refine acc4_get_ok (by omega) (by assumption) ?_ | refine opt3_split (fun h => ?_) (fun kind num tl h => ?_) | refine int_split (fun a h => ?_) (fun a h => ?_) | fail))
  all_goals (try (conv => lhs; whnf))
  · refine okIf_ok (frz_ps ?_ ?_)
    · show len = _; omega
    · rw [Nat.pow_zero, Nat.div_one, show min len b = len by omega]; rfl
  · refine okIf_ok (frz_ps ?_ ?_)
    · show b = _; omega
    · rw [Nat.pow_zero, Nat.div_one, show min len b = b by omega]; rfl

/-- An array that was made afresh, as what it holds. -/
theorem frz_arr {O : Objs} {k len s : Nat} {full : Bool} {ob : Ob} {rows : List (List V)} (ho : O k = some ob) (hs : ob.s = s) (hl : rows.length = len) (hr : (List.range len).map ob.row = rows.map some)
    (hf : (rows.all fun row => row.all fun q => q.flat && q.one) = true) : Frz (fun _ => True) O (.sl k 0 len full) (.ro s rows) := by
  subst hs hl
  have hrow : ∀ r row', rows[r]? = some row' → ob.row r = some row' := fun r row' h => by
    have hlt : r < rows.length := (List.getElem?_eq_some_iff.mp h).1
    have e := congrArg (fun l => l[r]?) hr
    simp only [List.getElem?_map, List.getElem?_range hlt, h, Option.map_some, Option.some.injEq] at e
    exact e
  refine .cell (.sl k 0 rows.length full ob rows (fun r => (ob.row r).getD []) trivial ho rfl (fun r row' h => ⟨?_, ?_⟩) fun r row' h c q q' h1 h2 => ?_)
  · rw [Nat.zero_add, hrow r row' h]; rfl
  · show row'.length = ((ob.row r).getD []).length
    rw [hrow r row' h]; rfl
  · have h1 : ((ob.row r).getD [])[c]? = some q := h1
    rw [hrow r row' h] at h1
    have h1 : row'[c]? = some q := h1
    rw [h1] at h2
    cases h2
    have := List.all_eq_true.mp (List.all_eq_true.mp hf row' (List.mem_of_getElem? h)) q (List.mem_of_getElem? h1)
    rw [Bool.and_eq_true] at this
    exact .same q this.2 this.1

/-- The words that texts are made of. -/
def wtab : List (Nat × Nat) := [(3, 6779757), (3, 6514034), (3, 6710628), (5, 491496170337), (2, 28271), (3, 7628140), (3, 7824750), (5, 500135195763), (3, 7628135), (3, 7628147), (4, 1885435763), (7, 32199706694346098), (4, 1702259047), (4, 1886351212), (5, 474449277043), (4, 1819042147), (5, 474214393697), (5, 431415719271), (4, 1701147238), (2, 29537), (2, 26217), (4, 1702063205), (4, 1701736292), (4, 1702260589), (3, 7630441), (3, 7500385), (3, 7304041), (3, 7102838), (3, 6710642), (3, 6775156), (1, 40), (1, 41), (1, 123), (1, 125), (1, 91), (1, 93), (1, 44), (1, 59), (1, 58), (1, 61), (1, 46), (1, 43), (1, 45), (1, 42), (1, 60), (1, 94), (1, 33), (1, 63), (1, 48), (1, 49), (1, 55), (2, 12849), (1, 97), (1, 98), (2, 12397), (2, 12653), (1, 120), (4, 1852399981), (4, 1819043171), (1, 110), (4, 1718379891), (3, 686627), (1, 10), (2, 14128), (1, 65), (17, 19472387550737881889148197991223912650337)]

set_option maxHeartbeats 4000000 in
theorem words_says : Says ρ Tryd.prog 21 [] (.ro 1 (wtab.map fun p => [.ps p.1 p.2])) := by
  refine says_run (call := call0) follows globL_ok call0_ok (fun _ h => by cases h) ?_
  repeat' (first | ((conv => lhs; whnf); first | ((conv => lhs; arg 1; whnf); refine valK_ok ?_) | refine forceB_ok ?_ | refine forceN_add ?_ | refine forceN_sub ?_ | refine forceN_suc ?_ | refine forceN_part ?_ | refine forceN_byte ?_ | refine forceN_ok ?_ | refine forceZ_add ?_ | refine forceZ_mul (by (try simp only [maxK]); omega) ?_ | refine forceZ_sub ?_ | refine forceZ_ok ?_ | refine rowAt_ok (byteRows_get (by (try simp only [maxK]); omega)) ?_ | (apply rowAt_ok; (focus assumption)) | refine br_true (Nat.beq_refl _) ?_ | refine br_true (by assumption) ?_ | refine br_false (by assumption) ?_ | refine br_max (by (try simp only [maxK]); omega) ?_ | refine br_ble_t (by (try simp only [maxK]); omega) ?_ | refine br_ble_f (by (try simp only [maxK]); omega) ?_ | refine br_beq_f (by (try simp only [maxK]); omega) ?_ | refine br_true (by simp only [Bool.and_eq_true, Nat.ble_eq]; (try simp only []); omega) ?_ | (refine br_ble (fun h => ?_) (fun h => ?_) <;> (try simp only [] at h)) | (refine br_beq (fun h => ?_) (fun h => ?_) <;> (try simp only [] at h)) | refine br_split (fun h => ?_) (fun h => ?_) | fail) | ((conv => lhs; whnf); first | refine acc4_upd_ok (by omega) ?_ | refine acc4_get_same (by omega) ?_ | refine acc4_get_other (by omega) (by omega) (by omega) ?_ | refine acc4_get_ok (by omega) (by assumption) ?_ | refine opt3_split (fun h => ?_) (fun kind num tl h => ?_) | refine int_split (fun a h => ?_) (fun a h => ?_) | fail))
  conv => lhs; whnf
  exact okIf_ok (frz_arr rfl rfl rfl rfl rfl)

end Go.Proofs.YtjljgldgkkfckaaDoor.M
