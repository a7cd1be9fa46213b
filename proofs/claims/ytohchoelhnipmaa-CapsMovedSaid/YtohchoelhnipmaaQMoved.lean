/- CapsMoved computes true, whatever it is given. -/
import Derived.Test.YtohchoelhnipmaaQCaps
namespace Go.Proofs.Ytohchoelhnipmaa.Q
open Go Go.RowKit
set_option linter.unusedVariables false
set_option linter.unusedSimpArgs false
attribute [local irreducible] QC QS QA QO QCalls thenK blockK bodyK QR XA QW

def writableM (c : Int) : Bool := c == 1 || c == 3

theorem writable_ok (a : Int) : QPure Try.prog 10 [.sc (.int .i64 a)] (.sc (.bool (writableM a))) := by
  refine ⟨x_init Try.func10 rfl rfl rfl rfl ?_, rfl⟩
  repeat' first
    | (show QS _ _ _ _ _ _; first | refine x_go rfl ?_ | refine x_skip rfl rfl rfl ?_ | refine qs_done ?_ | refine x_skip' rfl rfl ?_ | refine x_split rfl rfl (fun h => ?_) (fun h => ?_))
    | (show QW _ _ _ _ _ _ _; first | refine w_one tyOK rfl rfl rfl ?_ | refine w_store tyOK rfl rfl rfl rfl rfl rfl rfl rfl rfl rfl rfl rfl rfl rfl ?_ | refine w_box rfl rfl rfl rfl rfl rfl rfl rfl rfl ?_ | refine w_alloc tyOK rfl rfl rfl rfl rfl rfl rfl rfl rfl ?_ | refine w_storeA tyOK rfl rfl rfl rfl rfl rfl rfl rfl rfl rfl rfl rfl rfl rfl ?_)
    | (show QC _ _ _ _; first | refine q_seq ?_ | refine q_reg ?_ | refine q_block ?_ | refine q_skip ?_ | refine q_ret ?_ | refine q_exit ?_ | refine x_draw [] rfl rfl rfl ?_ | refine q_cond_t rfl ?_ | refine q_cond_f rfl ?_ | refine q_cond rfl (fun h => ?_) (fun h => ?_))
    | (show thenK _ _ _ _; first | refine k_then ?_ | refine k_then_ret ?_ | refine k_then_exit ?_ | refine k_then_panic ?_)
    | (show blockK _ _ _ _; first | refine k_block ?_ | refine k_block_ret ?_ | refine k_block_here ?_ | refine k_block_past rfl ?_ | refine k_block_panic ?_)
    | (show XA _ _ _ _ _ _ _; first | refine xa_quiet 0 tyOK rfl rfl rfl rfl (by kernel_rfl) (by kernel_rfl) rfl rfl rfl ?_ | refine xa_quiet 1 tyOK rfl rfl rfl rfl (by kernel_rfl) (by kernel_rfl) rfl rfl rfl ?_ | refine xa_quiet 2 tyOK rfl rfl rfl rfl (by kernel_rfl) (by kernel_rfl) rfl rfl rfl ?_ | refine xa_skip 0 rfl rfl rfl (by kernel_rfl) (by kernel_rfl) rfl rfl rfl ?_ | refine xa_skip 1 rfl rfl rfl (by kernel_rfl) (by kernel_rfl) rfl rfl rfl ?_ | refine xa_skip 2 rfl rfl rfl (by kernel_rfl) (by kernel_rfl) rfl rfl rfl ?_ | refine xa_done rfl ?_ | refine xa_slice tyOK rfl rfl rfl rfl rfl rfl rfl rfl rfl rfl rfl rfl rfl rfl rfl rfl rfl rfl rfl ?_)
    | (show bodyK _ _ _ _ _; first | refine k_pure rfl rfl rfl rfl ?_ | refine k_pureA tyOK rfl rfl rfl rfl rfl rfl rfl rfl rfl ?_)
  all_goals simp_all [writableM]

theorem view13_ok : QPure Try.prog 8 [.sc (.int .i64 1), .sc (.int .i64 3)] (.tup [.sc (.int .i64 0), .sc (.bool false)]) := by
  refine ⟨x_init Try.func8 rfl rfl rfl rfl ?_, rfl⟩
  repeat' first
    | (show QS _ _ _ _ _ _; first | refine x_go rfl ?_ | refine x_skip rfl rfl rfl ?_ | refine qs_done ?_ | refine x_skip' rfl rfl ?_ | refine x_split rfl rfl (fun h => ?_) (fun h => ?_))
    | (show QW _ _ _ _ _ _ _; first | refine w_one tyOK rfl rfl rfl ?_ | refine w_store tyOK rfl rfl rfl rfl rfl rfl rfl rfl rfl rfl rfl rfl rfl rfl ?_ | refine w_box rfl rfl rfl rfl rfl rfl rfl rfl rfl ?_ | refine w_alloc tyOK rfl rfl rfl rfl rfl rfl rfl rfl rfl ?_ | refine w_storeA tyOK rfl rfl rfl rfl rfl rfl rfl rfl rfl rfl rfl rfl rfl rfl ?_)
    | (show QC _ _ _ _; first | refine q_seq ?_ | refine q_reg ?_ | refine q_block ?_ | refine q_skip ?_ | refine q_ret ?_ | refine q_exit ?_ | refine x_draw [] rfl rfl rfl ?_ | refine q_cond_t rfl ?_ | refine q_cond_f rfl ?_ | refine q_cond rfl (fun h => ?_) (fun h => ?_))
    | (show thenK _ _ _ _; first | refine k_then ?_ | refine k_then_ret ?_ | refine k_then_exit ?_ | refine k_then_panic ?_)
    | (show blockK _ _ _ _; first | refine k_block ?_ | refine k_block_ret ?_ | refine k_block_here ?_ | refine k_block_past rfl ?_ | refine k_block_panic ?_)
    | (show XA _ _ _ _ _ _ _; first | refine xa_quiet 0 tyOK rfl rfl rfl rfl (by kernel_rfl) (by kernel_rfl) rfl rfl rfl ?_ | refine xa_quiet 1 tyOK rfl rfl rfl rfl (by kernel_rfl) (by kernel_rfl) rfl rfl rfl ?_ | refine xa_quiet 2 tyOK rfl rfl rfl rfl (by kernel_rfl) (by kernel_rfl) rfl rfl rfl ?_ | refine xa_skip 0 rfl rfl rfl (by kernel_rfl) (by kernel_rfl) rfl rfl rfl ?_ | refine xa_skip 1 rfl rfl rfl (by kernel_rfl) (by kernel_rfl) rfl rfl rfl ?_ | refine xa_skip 2 rfl rfl rfl (by kernel_rfl) (by kernel_rfl) rfl rfl rfl ?_ | refine xa_done rfl ?_ | refine xa_slice tyOK rfl rfl rfl rfl rfl rfl rfl rfl rfl rfl rfl rfl rfl rfl rfl rfl rfl rfl rfl ?_)
    | (show bodyK _ _ _ _ _; first | refine k_pure rfl rfl rfl rfl ?_ | refine k_pureA tyOK rfl rfl rfl rfl rfl rfl rfl rfl rfl ?_)
    | refine k_pure2 rfl rfl rfl rfl rfl rfl

theorem wakes_ok : QPure Try.prog 9 [] (.sc (.bool true)) := by
  refine ⟨x_init Try.func9 rfl rfl rfl rfl ?_, rfl⟩
  repeat' first
    | (show QS _ _ _ _ _ _; first | refine x_go rfl ?_ | refine x_skip rfl rfl rfl ?_ | refine qs_done ?_ | refine x_skip' rfl rfl ?_ | refine x_split rfl rfl (fun h => ?_) (fun h => ?_))
    | (show QW _ _ _ _ _ _ _; first | refine w_one tyOK rfl rfl rfl ?_ | refine w_store tyOK rfl rfl rfl rfl rfl rfl rfl rfl rfl rfl rfl rfl rfl rfl ?_ | refine w_box rfl rfl rfl rfl rfl rfl rfl rfl rfl ?_ | refine w_alloc tyOK rfl rfl rfl rfl rfl rfl rfl rfl rfl ?_ | refine w_storeA tyOK rfl rfl rfl rfl rfl rfl rfl rfl rfl rfl rfl rfl rfl rfl ?_)
    | (show QC _ _ _ _; first | refine q_seq ?_ | refine q_reg ?_ | refine q_block ?_ | refine q_skip ?_ | refine q_ret ?_ | refine q_exit ?_ | refine x_draw [] rfl rfl rfl ?_ | refine q_cond_t rfl ?_ | refine q_cond_f rfl ?_ | refine q_cond rfl (fun h => ?_) (fun h => ?_))
    | (show thenK _ _ _ _; first | refine k_then ?_ | refine k_then_ret ?_ | refine k_then_exit ?_ | refine k_then_panic ?_)
    | (show blockK _ _ _ _; first | refine k_block ?_ | refine k_block_ret ?_ | refine k_block_here ?_ | refine k_block_past rfl ?_ | refine k_block_panic ?_)
    | (show XA _ _ _ _ _ _ _; first | refine xa_quiet 0 tyOK rfl rfl rfl rfl (by kernel_rfl) (by kernel_rfl) rfl rfl rfl ?_ | refine xa_quiet 1 tyOK rfl rfl rfl rfl (by kernel_rfl) (by kernel_rfl) rfl rfl rfl ?_ | refine xa_quiet 2 tyOK rfl rfl rfl rfl (by kernel_rfl) (by kernel_rfl) rfl rfl rfl ?_ | refine xa_skip 0 rfl rfl rfl (by kernel_rfl) (by kernel_rfl) rfl rfl rfl ?_ | refine xa_skip 1 rfl rfl rfl (by kernel_rfl) (by kernel_rfl) rfl rfl rfl ?_ | refine xa_skip 2 rfl rfl rfl (by kernel_rfl) (by kernel_rfl) rfl rfl rfl ?_ | refine xa_done rfl ?_ | refine xa_slice tyOK rfl rfl rfl rfl rfl rfl rfl rfl rfl rfl rfl rfl rfl rfl rfl rfl rfl rfl rfl ?_)
    | (show bodyK _ _ _ _ _; first | refine k_pure rfl rfl rfl rfl ?_ | refine k_pureA tyOK rfl rfl rfl rfl rfl rfl rfl rfl rfl ?_)
    | refine w_pure view13_ok Try.func8 rfl rfl rfl rfl rfl rfl rfl ?_
    | refine w_pure (writable_ok _) Try.func10 rfl rfl rfl rfl rfl rfl rfl ?_
  all_goals rfl

theorem fits_mono (a b : Ty) (h : fitsM a b false = true) : fitsM a b true = true := by
  simp only [fitsM, objectM] at h ⊢
  grind

def cells (t : Ty) : List V := [.sc (.int .i64 t.kind), .sc (.int .i64 t.cap), .sc (.int .i64 t.rk), .sc (.string t.name), .sc (.slice t.p t.l t.c)]

/-- The outer loop's head. -/
def S1 (a b t : Ty) (n i : Int) : St := ⟨56, [(19, .sc (.int .i64 i)), (18, .sc (.int .i64 2)), (17, .sl 2 0 2), (5, .ptr 1 0 0), (3, .sc (.int .i64 n))], [some ⟨5, [cells a]⟩, some ⟨5, [cells b]⟩, some ⟨5, [cells a, cells t]⟩], 0, []⟩

/-- The inner loop's head. -/
def S2 (a b t s u : Ty) (n i j : Int) : St := ⟨56, [(28, .sc (.int .i64 j)), (27, .sc (.int .i64 2)), (26, .sl 4 0 2), (10, .ptr 3 0 0), (19, .sc (.int .i64 i)), (18, .sc (.int .i64 2)), (17, .sl 2 0 2), (5, .ptr 1 0 0), (3, .sc (.int .i64 n))],
  [some ⟨5, [cells a]⟩, some ⟨5, [cells b]⟩, some ⟨5, [cells a, cells t]⟩, some ⟨5, [cells s]⟩, some ⟨5, [cells b, cells u]⟩], 0, []⟩

set_option maxHeartbeats 8000000 in
theorem moved_ok (a b : Ty) (m n : Int) : QPure Try.prog 4 [a.v, b.v, .sc (.int .i64 m), .sc (.int .i64 n)] (.sc (.bool true)) := by
  refine ⟨x_init (n := 56) Try.func4 rfl rfl rfl rfl ?_, rfl⟩
  repeat' first
    | (show QS _ _ _ _ _ _; first | refine x_go rfl ?_ | refine x_skip rfl rfl rfl ?_ | refine qs_done ?_ | refine x_skip' rfl rfl ?_ | refine x_split rfl rfl (fun h => ?_) (fun h => ?_))
    | (show QW _ _ _ _ _ _ _; first | refine w_one tyOK rfl rfl rfl ?_ | refine w_store tyOK rfl rfl rfl rfl rfl rfl rfl rfl rfl rfl rfl rfl rfl rfl ?_ | refine w_box rfl rfl rfl rfl rfl rfl rfl rfl rfl ?_ | refine w_alloc tyOK rfl rfl rfl rfl rfl rfl rfl rfl rfl ?_ | refine w_storeA tyOK rfl rfl rfl rfl rfl rfl rfl rfl rfl rfl rfl rfl rfl rfl ?_)
    | (show QC _ _ _ _; first | refine q_seq ?_ | refine q_reg ?_ | refine q_block ?_ | refine q_skip ?_ | refine q_ret ?_ | refine q_exit ?_ | refine x_draw [] rfl rfl rfl ?_ | refine q_cond_t rfl ?_ | refine q_cond_f rfl ?_ | refine q_cond rfl (fun h => ?_) (fun h => ?_))
    | (show thenK _ _ _ _; first | refine k_then ?_ | refine k_then_ret ?_ | refine k_then_exit ?_ | refine k_then_panic ?_)
    | (show blockK _ _ _ _; first | refine k_block ?_ | refine k_block_ret ?_ | refine k_block_here ?_ | refine k_block_past rfl ?_ | refine k_block_panic ?_)
    | (show XA _ _ _ _ _ _ _; first | refine xa_quiet 0 tyOK rfl rfl rfl rfl (by kernel_rfl) (by kernel_rfl) rfl rfl rfl ?_ | refine xa_quiet 1 tyOK rfl rfl rfl rfl (by kernel_rfl) (by kernel_rfl) rfl rfl rfl ?_ | refine xa_quiet 2 tyOK rfl rfl rfl rfl (by kernel_rfl) (by kernel_rfl) rfl rfl rfl ?_ | refine xa_skip 0 rfl rfl rfl (by kernel_rfl) (by kernel_rfl) rfl rfl rfl ?_ | refine xa_skip 1 rfl rfl rfl (by kernel_rfl) (by kernel_rfl) rfl rfl rfl ?_ | refine xa_skip 2 rfl rfl rfl (by kernel_rfl) (by kernel_rfl) rfl rfl rfl ?_ | refine xa_done rfl ?_ | refine xa_slice tyOK rfl rfl rfl rfl rfl rfl rfl rfl rfl rfl rfl rfl rfl rfl rfl rfl rfl rfl rfl ?_)
    | (show bodyK _ _ _ _ _; first | refine k_pure rfl rfl rfl rfl ?_ | refine k_pureA tyOK rfl rfl rfl rfl rfl rfl rfl rfl rfl ?_)
    | refine xa_pure (of_ok _) Try.func11 rfl rfl rfl rfl rfl rfl rfl rfl rfl rfl rfl ?_
  refine x_loop (fun N σ => (N = 2 ∧ σ = S1 a b (ofM m) n 0) ∨ (N = 1 ∧ σ = S1 a b (ofM m) n 1) ∨ (N = 0 ∧ σ = S1 a b (ofM m) n 2)) 2 [19, 18, 17, 5, 3] 3 rfl rfl rfl rfl rfl rfl rfl (.inl ⟨rfl, rfl⟩) ?_
  intro N σ h
  rcases h with ⟨rfl, rfl⟩ | ⟨rfl, rfl⟩ | ⟨rfl, rfl⟩
  all_goals unfold S1
  · repeat' first
      | (show QS _ _ _ _ _ _; first | refine x_go rfl ?_ | refine x_skip rfl rfl rfl ?_ | refine qs_done ?_ | refine x_skip' rfl rfl ?_ | refine x_split rfl rfl (fun h => ?_) (fun h => ?_))
      | (show QW _ _ _ _ _ _ _; first | refine w_one tyOK rfl rfl rfl ?_ | refine w_store tyOK rfl rfl rfl rfl rfl rfl rfl rfl rfl rfl rfl rfl rfl rfl ?_ | refine w_box rfl rfl rfl rfl rfl rfl rfl rfl rfl ?_ | refine w_alloc tyOK rfl rfl rfl rfl rfl rfl rfl rfl rfl ?_ | refine w_storeA tyOK rfl rfl rfl rfl rfl rfl rfl rfl rfl rfl rfl rfl rfl rfl ?_)
      | (show QC _ _ _ _; first | refine q_seq ?_ | refine q_reg ?_ | refine q_block ?_ | refine q_skip ?_ | refine q_ret ?_ | refine q_exit ?_ | refine x_draw [] rfl rfl rfl ?_ | refine q_cond_t rfl ?_ | refine q_cond_f rfl ?_ | refine q_cond rfl (fun h => ?_) (fun h => ?_))
      | (show thenK _ _ _ _; first | refine k_then ?_ | refine k_then_ret ?_ | refine k_then_exit ?_ | refine k_then_panic ?_)
      | (show blockK _ _ _ _; first | refine k_block ?_ | refine k_block_ret ?_ | refine k_block_here ?_ | refine k_block_past rfl ?_ | refine k_block_panic ?_)
      | (show XA _ _ _ _ _ _ _; first | refine xa_quiet 0 tyOK rfl rfl rfl rfl (by kernel_rfl) (by kernel_rfl) rfl rfl rfl ?_ | refine xa_quiet 1 tyOK rfl rfl rfl rfl (by kernel_rfl) (by kernel_rfl) rfl rfl rfl ?_ | refine xa_quiet 2 tyOK rfl rfl rfl rfl (by kernel_rfl) (by kernel_rfl) rfl rfl rfl ?_ | refine xa_skip 0 rfl rfl rfl (by kernel_rfl) (by kernel_rfl) rfl rfl rfl ?_ | refine xa_skip 1 rfl rfl rfl (by kernel_rfl) (by kernel_rfl) rfl rfl rfl ?_ | refine xa_skip 2 rfl rfl rfl (by kernel_rfl) (by kernel_rfl) rfl rfl rfl ?_ | refine xa_done rfl ?_ | refine xa_slice tyOK rfl rfl rfl rfl rfl rfl rfl rfl rfl rfl rfl rfl rfl rfl rfl rfl rfl rfl rfl ?_)
      | (show bodyK _ _ _ _ _; first | refine k_pure rfl rfl rfl rfl ?_ | refine k_pureA tyOK rfl rfl rfl rfl rfl rfl rfl rfl rfl ?_)
      | refine xa_pure (of_ok _) Try.func11 rfl rfl rfl rfl rfl rfl rfl rfl rfl rfl rfl ?_
    refine x_loop (fun N σ => (N = 2 ∧ σ = S2 a b (ofM m) a (ofM n) n 0 0) ∨ (N = 1 ∧ σ = S2 a b (ofM m) a (ofM n) n 0 1) ∨ (N = 0 ∧ σ = S2 a b (ofM m) a (ofM n) n 0 2)) 2 [28, 27, 26, 10, 19, 18, 17, 5, 3] 5 rfl rfl rfl rfl rfl rfl rfl (.inl ⟨rfl, rfl⟩) ?_
    intro N σ h
    rcases h with ⟨rfl, rfl⟩ | ⟨rfl, rfl⟩ | ⟨rfl, rfl⟩
    all_goals unfold S2
    · repeat' first
        | (show QS _ _ _ _ _ _; first | refine x_go rfl ?_ | refine x_skip rfl rfl rfl ?_ | refine qs_done ?_ | refine x_skip' rfl rfl ?_ | refine x_split rfl rfl (fun h => ?_) (fun h => ?_))
        | (show QW _ _ _ _ _ _ _; first | refine w_one tyOK rfl rfl rfl ?_ | refine w_store tyOK rfl rfl rfl rfl rfl rfl rfl rfl rfl rfl rfl rfl rfl rfl ?_ | refine w_box rfl rfl rfl rfl rfl rfl rfl rfl rfl ?_ | refine w_alloc tyOK rfl rfl rfl rfl rfl rfl rfl rfl rfl ?_ | refine w_storeA tyOK rfl rfl rfl rfl rfl rfl rfl rfl rfl rfl rfl rfl rfl rfl ?_)
        | (show QC _ _ _ _; first | refine q_seq ?_ | refine q_reg ?_ | refine q_block ?_ | refine q_skip ?_ | refine q_ret ?_ | refine q_exit ?_ | refine x_draw [] rfl rfl rfl ?_ | refine q_cond_t rfl ?_ | refine q_cond_f rfl ?_ | refine q_cond rfl (fun h => ?_) (fun h => ?_))
        | (show thenK _ _ _ _; first | refine k_then ?_ | refine k_then_ret ?_ | refine k_then_exit ?_ | refine k_then_panic ?_)
        | (show blockK _ _ _ _; first | refine k_block ?_ | refine k_block_ret ?_ | refine k_block_here ?_ | refine k_block_past rfl ?_ | refine k_block_panic ?_)
        | (show XA _ _ _ _ _ _ _; first | refine xa_quiet 0 tyOK rfl rfl rfl rfl (by kernel_rfl) (by kernel_rfl) rfl rfl rfl ?_ | refine xa_quiet 1 tyOK rfl rfl rfl rfl (by kernel_rfl) (by kernel_rfl) rfl rfl rfl ?_ | refine xa_quiet 2 tyOK rfl rfl rfl rfl (by kernel_rfl) (by kernel_rfl) rfl rfl rfl ?_ | refine xa_skip 0 rfl rfl rfl (by kernel_rfl) (by kernel_rfl) rfl rfl rfl ?_ | refine xa_skip 1 rfl rfl rfl (by kernel_rfl) (by kernel_rfl) rfl rfl rfl ?_ | refine xa_skip 2 rfl rfl rfl (by kernel_rfl) (by kernel_rfl) rfl rfl rfl ?_ | refine xa_done rfl ?_ | refine xa_slice tyOK rfl rfl rfl rfl rfl rfl rfl rfl rfl rfl rfl rfl rfl rfl rfl rfl rfl rfl rfl ?_)
        | (show bodyK _ _ _ _ _; first | refine k_pure rfl rfl rfl rfl ?_ | refine k_pureA tyOK rfl rfl rfl rfl rfl rfl rfl rfl rfl ?_)
        | refine w_pure (fits_ok ⟨_, _, _, _, _, _, _⟩ ⟨_, _, _, _, _, _, _⟩ _) Try.func12 rfl rfl rfl rfl rfl rfl rfl ?_
        | refine w_pure wakes_ok Try.func9 rfl rfl rfl rfl rfl rfl rfl ?_
        | refine x_round 1 [28, 27, 26, 10, 19, 18, 17, 5, 3] 5 rfl rfl rfl rfl rfl rfl rfl (by decide) (.inr (.inl ⟨rfl, rfl⟩))
        | refine x_round 0 [28, 27, 26, 10, 19, 18, 17, 5, 3] 5 rfl rfl rfl rfl rfl rfl rfl (by decide) (.inr (.inr ⟨rfl, rfl⟩))
        | refine x_round 1 [19, 18, 17, 5, 3] 3 rfl rfl rfl rfl rfl rfl rfl (by decide) (.inr (.inl ⟨rfl, rfl⟩))
        | refine x_round 0 [19, 18, 17, 5, 3] 3 rfl rfl rfl rfl rfl rfl rfl (by decide) (.inr (.inr ⟨rfl, rfl⟩))
      all_goals first | (exfalso; simp_all [fits_mono]; done) | skip
    · repeat' first
        | (show QS _ _ _ _ _ _; first | refine x_go rfl ?_ | refine x_skip rfl rfl rfl ?_ | refine qs_done ?_ | refine x_skip' rfl rfl ?_ | refine x_split rfl rfl (fun h => ?_) (fun h => ?_))
        | (show QW _ _ _ _ _ _ _; first | refine w_one tyOK rfl rfl rfl ?_ | refine w_store tyOK rfl rfl rfl rfl rfl rfl rfl rfl rfl rfl rfl rfl rfl rfl ?_ | refine w_box rfl rfl rfl rfl rfl rfl rfl rfl rfl ?_ | refine w_alloc tyOK rfl rfl rfl rfl rfl rfl rfl rfl rfl ?_ | refine w_storeA tyOK rfl rfl rfl rfl rfl rfl rfl rfl rfl rfl rfl rfl rfl rfl ?_)
        | (show QC _ _ _ _; first | refine q_seq ?_ | refine q_reg ?_ | refine q_block ?_ | refine q_skip ?_ | refine q_ret ?_ | refine q_exit ?_ | refine x_draw [] rfl rfl rfl ?_ | refine q_cond_t rfl ?_ | refine q_cond_f rfl ?_ | refine q_cond rfl (fun h => ?_) (fun h => ?_))
        | (show thenK _ _ _ _; first | refine k_then ?_ | refine k_then_ret ?_ | refine k_then_exit ?_ | refine k_then_panic ?_)
        | (show blockK _ _ _ _; first | refine k_block ?_ | refine k_block_ret ?_ | refine k_block_here ?_ | refine k_block_past rfl ?_ | refine k_block_panic ?_)
        | (show XA _ _ _ _ _ _ _; first | refine xa_quiet 0 tyOK rfl rfl rfl rfl (by kernel_rfl) (by kernel_rfl) rfl rfl rfl ?_ | refine xa_quiet 1 tyOK rfl rfl rfl rfl (by kernel_rfl) (by kernel_rfl) rfl rfl rfl ?_ | refine xa_quiet 2 tyOK rfl rfl rfl rfl (by kernel_rfl) (by kernel_rfl) rfl rfl rfl ?_ | refine xa_skip 0 rfl rfl rfl (by kernel_rfl) (by kernel_rfl) rfl rfl rfl ?_ | refine xa_skip 1 rfl rfl rfl (by kernel_rfl) (by kernel_rfl) rfl rfl rfl ?_ | refine xa_skip 2 rfl rfl rfl (by kernel_rfl) (by kernel_rfl) rfl rfl rfl ?_ | refine xa_done rfl ?_ | refine xa_slice tyOK rfl rfl rfl rfl rfl rfl rfl rfl rfl rfl rfl rfl rfl rfl rfl rfl rfl rfl rfl ?_)
        | (show bodyK _ _ _ _ _; first | refine k_pure rfl rfl rfl rfl ?_ | refine k_pureA tyOK rfl rfl rfl rfl rfl rfl rfl rfl rfl ?_)
        | refine w_pure (fits_ok ⟨_, _, _, _, _, _, _⟩ ⟨_, _, _, _, _, _, _⟩ _) Try.func12 rfl rfl rfl rfl rfl rfl rfl ?_
        | refine w_pure wakes_ok Try.func9 rfl rfl rfl rfl rfl rfl rfl ?_
        | refine x_round 1 [28, 27, 26, 10, 19, 18, 17, 5, 3] 5 rfl rfl rfl rfl rfl rfl rfl (by decide) (.inr (.inl ⟨rfl, rfl⟩))
        | refine x_round 0 [28, 27, 26, 10, 19, 18, 17, 5, 3] 5 rfl rfl rfl rfl rfl rfl rfl (by decide) (.inr (.inr ⟨rfl, rfl⟩))
        | refine x_round 1 [19, 18, 17, 5, 3] 3 rfl rfl rfl rfl rfl rfl rfl (by decide) (.inr (.inl ⟨rfl, rfl⟩))
        | refine x_round 0 [19, 18, 17, 5, 3] 3 rfl rfl rfl rfl rfl rfl rfl (by decide) (.inr (.inr ⟨rfl, rfl⟩))
      all_goals first | (exfalso; simp_all [fits_mono]; done) | skip
    · repeat' first
        | (show QS _ _ _ _ _ _; first | refine x_go rfl ?_ | refine x_skip rfl rfl rfl ?_ | refine qs_done ?_ | refine x_skip' rfl rfl ?_ | refine x_split rfl rfl (fun h => ?_) (fun h => ?_))
        | (show QW _ _ _ _ _ _ _; first | refine w_one tyOK rfl rfl rfl ?_ | refine w_store tyOK rfl rfl rfl rfl rfl rfl rfl rfl rfl rfl rfl rfl rfl rfl ?_ | refine w_box rfl rfl rfl rfl rfl rfl rfl rfl rfl ?_ | refine w_alloc tyOK rfl rfl rfl rfl rfl rfl rfl rfl rfl ?_ | refine w_storeA tyOK rfl rfl rfl rfl rfl rfl rfl rfl rfl rfl rfl rfl rfl rfl ?_)
        | (show QC _ _ _ _; first | refine q_seq ?_ | refine q_reg ?_ | refine q_block ?_ | refine q_skip ?_ | refine q_ret ?_ | refine q_exit ?_ | refine x_draw [] rfl rfl rfl ?_ | refine q_cond_t rfl ?_ | refine q_cond_f rfl ?_ | refine q_cond rfl (fun h => ?_) (fun h => ?_))
        | (show thenK _ _ _ _; first | refine k_then ?_ | refine k_then_ret ?_ | refine k_then_exit ?_ | refine k_then_panic ?_)
        | (show blockK _ _ _ _; first | refine k_block ?_ | refine k_block_ret ?_ | refine k_block_here ?_ | refine k_block_past rfl ?_ | refine k_block_panic ?_)
        | (show XA _ _ _ _ _ _ _; first | refine xa_quiet 0 tyOK rfl rfl rfl rfl (by kernel_rfl) (by kernel_rfl) rfl rfl rfl ?_ | refine xa_quiet 1 tyOK rfl rfl rfl rfl (by kernel_rfl) (by kernel_rfl) rfl rfl rfl ?_ | refine xa_quiet 2 tyOK rfl rfl rfl rfl (by kernel_rfl) (by kernel_rfl) rfl rfl rfl ?_ | refine xa_skip 0 rfl rfl rfl (by kernel_rfl) (by kernel_rfl) rfl rfl rfl ?_ | refine xa_skip 1 rfl rfl rfl (by kernel_rfl) (by kernel_rfl) rfl rfl rfl ?_ | refine xa_skip 2 rfl rfl rfl (by kernel_rfl) (by kernel_rfl) rfl rfl rfl ?_ | refine xa_done rfl ?_ | refine xa_slice tyOK rfl rfl rfl rfl rfl rfl rfl rfl rfl rfl rfl rfl rfl rfl rfl rfl rfl rfl rfl ?_)
        | (show bodyK _ _ _ _ _; first | refine k_pure rfl rfl rfl rfl ?_ | refine k_pureA tyOK rfl rfl rfl rfl rfl rfl rfl rfl rfl ?_)
        | refine w_pure (fits_ok ⟨_, _, _, _, _, _, _⟩ ⟨_, _, _, _, _, _, _⟩ _) Try.func12 rfl rfl rfl rfl rfl rfl rfl ?_
        | refine w_pure wakes_ok Try.func9 rfl rfl rfl rfl rfl rfl rfl ?_
        | refine x_round 1 [28, 27, 26, 10, 19, 18, 17, 5, 3] 5 rfl rfl rfl rfl rfl rfl rfl (by decide) (.inr (.inl ⟨rfl, rfl⟩))
        | refine x_round 0 [28, 27, 26, 10, 19, 18, 17, 5, 3] 5 rfl rfl rfl rfl rfl rfl rfl (by decide) (.inr (.inr ⟨rfl, rfl⟩))
        | refine x_round 1 [19, 18, 17, 5, 3] 3 rfl rfl rfl rfl rfl rfl rfl (by decide) (.inr (.inl ⟨rfl, rfl⟩))
        | refine x_round 0 [19, 18, 17, 5, 3] 3 rfl rfl rfl rfl rfl rfl rfl (by decide) (.inr (.inr ⟨rfl, rfl⟩))
  · repeat' first
      | (show QS _ _ _ _ _ _; first | refine x_go rfl ?_ | refine x_skip rfl rfl rfl ?_ | refine qs_done ?_ | refine x_skip' rfl rfl ?_ | refine x_split rfl rfl (fun h => ?_) (fun h => ?_))
      | (show QW _ _ _ _ _ _ _; first | refine w_one tyOK rfl rfl rfl ?_ | refine w_store tyOK rfl rfl rfl rfl rfl rfl rfl rfl rfl rfl rfl rfl rfl rfl ?_ | refine w_box rfl rfl rfl rfl rfl rfl rfl rfl rfl ?_ | refine w_alloc tyOK rfl rfl rfl rfl rfl rfl rfl rfl rfl ?_ | refine w_storeA tyOK rfl rfl rfl rfl rfl rfl rfl rfl rfl rfl rfl rfl rfl rfl ?_)
      | (show QC _ _ _ _; first | refine q_seq ?_ | refine q_reg ?_ | refine q_block ?_ | refine q_skip ?_ | refine q_ret ?_ | refine q_exit ?_ | refine x_draw [] rfl rfl rfl ?_ | refine q_cond_t rfl ?_ | refine q_cond_f rfl ?_ | refine q_cond rfl (fun h => ?_) (fun h => ?_))
      | (show thenK _ _ _ _; first | refine k_then ?_ | refine k_then_ret ?_ | refine k_then_exit ?_ | refine k_then_panic ?_)
      | (show blockK _ _ _ _; first | refine k_block ?_ | refine k_block_ret ?_ | refine k_block_here ?_ | refine k_block_past rfl ?_ | refine k_block_panic ?_)
      | (show XA _ _ _ _ _ _ _; first | refine xa_quiet 0 tyOK rfl rfl rfl rfl (by kernel_rfl) (by kernel_rfl) rfl rfl rfl ?_ | refine xa_quiet 1 tyOK rfl rfl rfl rfl (by kernel_rfl) (by kernel_rfl) rfl rfl rfl ?_ | refine xa_quiet 2 tyOK rfl rfl rfl rfl (by kernel_rfl) (by kernel_rfl) rfl rfl rfl ?_ | refine xa_skip 0 rfl rfl rfl (by kernel_rfl) (by kernel_rfl) rfl rfl rfl ?_ | refine xa_skip 1 rfl rfl rfl (by kernel_rfl) (by kernel_rfl) rfl rfl rfl ?_ | refine xa_skip 2 rfl rfl rfl (by kernel_rfl) (by kernel_rfl) rfl rfl rfl ?_ | refine xa_done rfl ?_ | refine xa_slice tyOK rfl rfl rfl rfl rfl rfl rfl rfl rfl rfl rfl rfl rfl rfl rfl rfl rfl rfl rfl ?_)
      | (show bodyK _ _ _ _ _; first | refine k_pure rfl rfl rfl rfl ?_ | refine k_pureA tyOK rfl rfl rfl rfl rfl rfl rfl rfl rfl ?_)
      | refine xa_pure (of_ok _) Try.func11 rfl rfl rfl rfl rfl rfl rfl rfl rfl rfl rfl ?_
    refine x_loop (fun N σ => (N = 2 ∧ σ = S2 a b (ofM m) (ofM m) (ofM n) n 1 0) ∨ (N = 1 ∧ σ = S2 a b (ofM m) (ofM m) (ofM n) n 1 1) ∨ (N = 0 ∧ σ = S2 a b (ofM m) (ofM m) (ofM n) n 1 2)) 2 [28, 27, 26, 10, 19, 18, 17, 5, 3] 5 rfl rfl rfl rfl rfl rfl rfl (.inl ⟨rfl, rfl⟩) ?_
    intro N σ h
    rcases h with ⟨rfl, rfl⟩ | ⟨rfl, rfl⟩ | ⟨rfl, rfl⟩
    all_goals unfold S2
    · repeat' first
        | (show QS _ _ _ _ _ _; first | refine x_go rfl ?_ | refine x_skip rfl rfl rfl ?_ | refine qs_done ?_ | refine x_skip' rfl rfl ?_ | refine x_split rfl rfl (fun h => ?_) (fun h => ?_))
        | (show QW _ _ _ _ _ _ _; first | refine w_one tyOK rfl rfl rfl ?_ | refine w_store tyOK rfl rfl rfl rfl rfl rfl rfl rfl rfl rfl rfl rfl rfl rfl ?_ | refine w_box rfl rfl rfl rfl rfl rfl rfl rfl rfl ?_ | refine w_alloc tyOK rfl rfl rfl rfl rfl rfl rfl rfl rfl ?_ | refine w_storeA tyOK rfl rfl rfl rfl rfl rfl rfl rfl rfl rfl rfl rfl rfl rfl ?_)
        | (show QC _ _ _ _; first | refine q_seq ?_ | refine q_reg ?_ | refine q_block ?_ | refine q_skip ?_ | refine q_ret ?_ | refine q_exit ?_ | refine x_draw [] rfl rfl rfl ?_ | refine q_cond_t rfl ?_ | refine q_cond_f rfl ?_ | refine q_cond rfl (fun h => ?_) (fun h => ?_))
        | (show thenK _ _ _ _; first | refine k_then ?_ | refine k_then_ret ?_ | refine k_then_exit ?_ | refine k_then_panic ?_)
        | (show blockK _ _ _ _; first | refine k_block ?_ | refine k_block_ret ?_ | refine k_block_here ?_ | refine k_block_past rfl ?_ | refine k_block_panic ?_)
        | (show XA _ _ _ _ _ _ _; first | refine xa_quiet 0 tyOK rfl rfl rfl rfl (by kernel_rfl) (by kernel_rfl) rfl rfl rfl ?_ | refine xa_quiet 1 tyOK rfl rfl rfl rfl (by kernel_rfl) (by kernel_rfl) rfl rfl rfl ?_ | refine xa_quiet 2 tyOK rfl rfl rfl rfl (by kernel_rfl) (by kernel_rfl) rfl rfl rfl ?_ | refine xa_skip 0 rfl rfl rfl (by kernel_rfl) (by kernel_rfl) rfl rfl rfl ?_ | refine xa_skip 1 rfl rfl rfl (by kernel_rfl) (by kernel_rfl) rfl rfl rfl ?_ | refine xa_skip 2 rfl rfl rfl (by kernel_rfl) (by kernel_rfl) rfl rfl rfl ?_ | refine xa_done rfl ?_ | refine xa_slice tyOK rfl rfl rfl rfl rfl rfl rfl rfl rfl rfl rfl rfl rfl rfl rfl rfl rfl rfl rfl ?_)
        | (show bodyK _ _ _ _ _; first | refine k_pure rfl rfl rfl rfl ?_ | refine k_pureA tyOK rfl rfl rfl rfl rfl rfl rfl rfl rfl ?_)
        | refine w_pure (fits_ok ⟨_, _, _, _, _, _, _⟩ ⟨_, _, _, _, _, _, _⟩ _) Try.func12 rfl rfl rfl rfl rfl rfl rfl ?_
        | refine w_pure wakes_ok Try.func9 rfl rfl rfl rfl rfl rfl rfl ?_
        | refine x_round 1 [28, 27, 26, 10, 19, 18, 17, 5, 3] 5 rfl rfl rfl rfl rfl rfl rfl (by decide) (.inr (.inl ⟨rfl, rfl⟩))
        | refine x_round 0 [28, 27, 26, 10, 19, 18, 17, 5, 3] 5 rfl rfl rfl rfl rfl rfl rfl (by decide) (.inr (.inr ⟨rfl, rfl⟩))
        | refine x_round 1 [19, 18, 17, 5, 3] 3 rfl rfl rfl rfl rfl rfl rfl (by decide) (.inr (.inl ⟨rfl, rfl⟩))
        | refine x_round 0 [19, 18, 17, 5, 3] 3 rfl rfl rfl rfl rfl rfl rfl (by decide) (.inr (.inr ⟨rfl, rfl⟩))
      all_goals first | (exfalso; simp_all [fits_mono]; done) | skip
    · repeat' first
        | (show QS _ _ _ _ _ _; first | refine x_go rfl ?_ | refine x_skip rfl rfl rfl ?_ | refine qs_done ?_ | refine x_skip' rfl rfl ?_ | refine x_split rfl rfl (fun h => ?_) (fun h => ?_))
        | (show QW _ _ _ _ _ _ _; first | refine w_one tyOK rfl rfl rfl ?_ | refine w_store tyOK rfl rfl rfl rfl rfl rfl rfl rfl rfl rfl rfl rfl rfl rfl ?_ | refine w_box rfl rfl rfl rfl rfl rfl rfl rfl rfl ?_ | refine w_alloc tyOK rfl rfl rfl rfl rfl rfl rfl rfl rfl ?_ | refine w_storeA tyOK rfl rfl rfl rfl rfl rfl rfl rfl rfl rfl rfl rfl rfl rfl ?_)
        | (show QC _ _ _ _; first | refine q_seq ?_ | refine q_reg ?_ | refine q_block ?_ | refine q_skip ?_ | refine q_ret ?_ | refine q_exit ?_ | refine x_draw [] rfl rfl rfl ?_ | refine q_cond_t rfl ?_ | refine q_cond_f rfl ?_ | refine q_cond rfl (fun h => ?_) (fun h => ?_))
        | (show thenK _ _ _ _; first | refine k_then ?_ | refine k_then_ret ?_ | refine k_then_exit ?_ | refine k_then_panic ?_)
        | (show blockK _ _ _ _; first | refine k_block ?_ | refine k_block_ret ?_ | refine k_block_here ?_ | refine k_block_past rfl ?_ | refine k_block_panic ?_)
        | (show XA _ _ _ _ _ _ _; first | refine xa_quiet 0 tyOK rfl rfl rfl rfl (by kernel_rfl) (by kernel_rfl) rfl rfl rfl ?_ | refine xa_quiet 1 tyOK rfl rfl rfl rfl (by kernel_rfl) (by kernel_rfl) rfl rfl rfl ?_ | refine xa_quiet 2 tyOK rfl rfl rfl rfl (by kernel_rfl) (by kernel_rfl) rfl rfl rfl ?_ | refine xa_skip 0 rfl rfl rfl (by kernel_rfl) (by kernel_rfl) rfl rfl rfl ?_ | refine xa_skip 1 rfl rfl rfl (by kernel_rfl) (by kernel_rfl) rfl rfl rfl ?_ | refine xa_skip 2 rfl rfl rfl (by kernel_rfl) (by kernel_rfl) rfl rfl rfl ?_ | refine xa_done rfl ?_ | refine xa_slice tyOK rfl rfl rfl rfl rfl rfl rfl rfl rfl rfl rfl rfl rfl rfl rfl rfl rfl rfl rfl ?_)
        | (show bodyK _ _ _ _ _; first | refine k_pure rfl rfl rfl rfl ?_ | refine k_pureA tyOK rfl rfl rfl rfl rfl rfl rfl rfl rfl ?_)
        | refine w_pure (fits_ok ⟨_, _, _, _, _, _, _⟩ ⟨_, _, _, _, _, _, _⟩ _) Try.func12 rfl rfl rfl rfl rfl rfl rfl ?_
        | refine w_pure wakes_ok Try.func9 rfl rfl rfl rfl rfl rfl rfl ?_
        | refine x_round 1 [28, 27, 26, 10, 19, 18, 17, 5, 3] 5 rfl rfl rfl rfl rfl rfl rfl (by decide) (.inr (.inl ⟨rfl, rfl⟩))
        | refine x_round 0 [28, 27, 26, 10, 19, 18, 17, 5, 3] 5 rfl rfl rfl rfl rfl rfl rfl (by decide) (.inr (.inr ⟨rfl, rfl⟩))
        | refine x_round 1 [19, 18, 17, 5, 3] 3 rfl rfl rfl rfl rfl rfl rfl (by decide) (.inr (.inl ⟨rfl, rfl⟩))
        | refine x_round 0 [19, 18, 17, 5, 3] 3 rfl rfl rfl rfl rfl rfl rfl (by decide) (.inr (.inr ⟨rfl, rfl⟩))
      all_goals first | (exfalso; simp_all [fits_mono]; done) | skip
    · repeat' first
        | (show QS _ _ _ _ _ _; first | refine x_go rfl ?_ | refine x_skip rfl rfl rfl ?_ | refine qs_done ?_ | refine x_skip' rfl rfl ?_ | refine x_split rfl rfl (fun h => ?_) (fun h => ?_))
        | (show QW _ _ _ _ _ _ _; first | refine w_one tyOK rfl rfl rfl ?_ | refine w_store tyOK rfl rfl rfl rfl rfl rfl rfl rfl rfl rfl rfl rfl rfl rfl ?_ | refine w_box rfl rfl rfl rfl rfl rfl rfl rfl rfl ?_ | refine w_alloc tyOK rfl rfl rfl rfl rfl rfl rfl rfl rfl ?_ | refine w_storeA tyOK rfl rfl rfl rfl rfl rfl rfl rfl rfl rfl rfl rfl rfl rfl ?_)
        | (show QC _ _ _ _; first | refine q_seq ?_ | refine q_reg ?_ | refine q_block ?_ | refine q_skip ?_ | refine q_ret ?_ | refine q_exit ?_ | refine x_draw [] rfl rfl rfl ?_ | refine q_cond_t rfl ?_ | refine q_cond_f rfl ?_ | refine q_cond rfl (fun h => ?_) (fun h => ?_))
        | (show thenK _ _ _ _; first | refine k_then ?_ | refine k_then_ret ?_ | refine k_then_exit ?_ | refine k_then_panic ?_)
        | (show blockK _ _ _ _; first | refine k_block ?_ | refine k_block_ret ?_ | refine k_block_here ?_ | refine k_block_past rfl ?_ | refine k_block_panic ?_)
        | (show XA _ _ _ _ _ _ _; first | refine xa_quiet 0 tyOK rfl rfl rfl rfl (by kernel_rfl) (by kernel_rfl) rfl rfl rfl ?_ | refine xa_quiet 1 tyOK rfl rfl rfl rfl (by kernel_rfl) (by kernel_rfl) rfl rfl rfl ?_ | refine xa_quiet 2 tyOK rfl rfl rfl rfl (by kernel_rfl) (by kernel_rfl) rfl rfl rfl ?_ | refine xa_skip 0 rfl rfl rfl (by kernel_rfl) (by kernel_rfl) rfl rfl rfl ?_ | refine xa_skip 1 rfl rfl rfl (by kernel_rfl) (by kernel_rfl) rfl rfl rfl ?_ | refine xa_skip 2 rfl rfl rfl (by kernel_rfl) (by kernel_rfl) rfl rfl rfl ?_ | refine xa_done rfl ?_ | refine xa_slice tyOK rfl rfl rfl rfl rfl rfl rfl rfl rfl rfl rfl rfl rfl rfl rfl rfl rfl rfl rfl ?_)
        | (show bodyK _ _ _ _ _; first | refine k_pure rfl rfl rfl rfl ?_ | refine k_pureA tyOK rfl rfl rfl rfl rfl rfl rfl rfl rfl ?_)
        | refine w_pure (fits_ok ⟨_, _, _, _, _, _, _⟩ ⟨_, _, _, _, _, _, _⟩ _) Try.func12 rfl rfl rfl rfl rfl rfl rfl ?_
        | refine w_pure wakes_ok Try.func9 rfl rfl rfl rfl rfl rfl rfl ?_
        | refine x_round 1 [28, 27, 26, 10, 19, 18, 17, 5, 3] 5 rfl rfl rfl rfl rfl rfl rfl (by decide) (.inr (.inl ⟨rfl, rfl⟩))
        | refine x_round 0 [28, 27, 26, 10, 19, 18, 17, 5, 3] 5 rfl rfl rfl rfl rfl rfl rfl (by decide) (.inr (.inr ⟨rfl, rfl⟩))
        | refine x_round 1 [19, 18, 17, 5, 3] 3 rfl rfl rfl rfl rfl rfl rfl (by decide) (.inr (.inl ⟨rfl, rfl⟩))
        | refine x_round 0 [19, 18, 17, 5, 3] 3 rfl rfl rfl rfl rfl rfl rfl (by decide) (.inr (.inr ⟨rfl, rfl⟩))
  · repeat' first
      | (show QS _ _ _ _ _ _; first | refine x_go rfl ?_ | refine x_skip rfl rfl rfl ?_ | refine qs_done ?_ | refine x_skip' rfl rfl ?_ | refine x_split rfl rfl (fun h => ?_) (fun h => ?_))
      | (show QW _ _ _ _ _ _ _; first | refine w_one tyOK rfl rfl rfl ?_ | refine w_store tyOK rfl rfl rfl rfl rfl rfl rfl rfl rfl rfl rfl rfl rfl rfl ?_ | refine w_box rfl rfl rfl rfl rfl rfl rfl rfl rfl ?_ | refine w_alloc tyOK rfl rfl rfl rfl rfl rfl rfl rfl rfl ?_ | refine w_storeA tyOK rfl rfl rfl rfl rfl rfl rfl rfl rfl rfl rfl rfl rfl rfl ?_)
      | (show QC _ _ _ _; first | refine q_seq ?_ | refine q_reg ?_ | refine q_block ?_ | refine q_skip ?_ | refine q_ret ?_ | refine q_exit ?_ | refine x_draw [] rfl rfl rfl ?_ | refine q_cond_t rfl ?_ | refine q_cond_f rfl ?_ | refine q_cond rfl (fun h => ?_) (fun h => ?_))
      | (show thenK _ _ _ _; first | refine k_then ?_ | refine k_then_ret ?_ | refine k_then_exit ?_ | refine k_then_panic ?_)
      | (show blockK _ _ _ _; first | refine k_block ?_ | refine k_block_ret ?_ | refine k_block_here ?_ | refine k_block_past rfl ?_ | refine k_block_panic ?_)
      | (show XA _ _ _ _ _ _ _; first | refine xa_quiet 0 tyOK rfl rfl rfl rfl (by kernel_rfl) (by kernel_rfl) rfl rfl rfl ?_ | refine xa_quiet 1 tyOK rfl rfl rfl rfl (by kernel_rfl) (by kernel_rfl) rfl rfl rfl ?_ | refine xa_quiet 2 tyOK rfl rfl rfl rfl (by kernel_rfl) (by kernel_rfl) rfl rfl rfl ?_ | refine xa_skip 0 rfl rfl rfl (by kernel_rfl) (by kernel_rfl) rfl rfl rfl ?_ | refine xa_skip 1 rfl rfl rfl (by kernel_rfl) (by kernel_rfl) rfl rfl rfl ?_ | refine xa_skip 2 rfl rfl rfl (by kernel_rfl) (by kernel_rfl) rfl rfl rfl ?_ | refine xa_done rfl ?_ | refine xa_slice tyOK rfl rfl rfl rfl rfl rfl rfl rfl rfl rfl rfl rfl rfl rfl rfl rfl rfl rfl rfl ?_)
      | (show bodyK _ _ _ _ _; first | refine k_pure rfl rfl rfl rfl ?_ | refine k_pureA tyOK rfl rfl rfl rfl rfl rfl rfl rfl rfl ?_)
      | refine w_pure (fits_ok ⟨_, _, _, _, _, _, _⟩ ⟨_, _, _, _, _, _, _⟩ _) Try.func12 rfl rfl rfl rfl rfl rfl rfl ?_
      | refine w_pure wakes_ok Try.func9 rfl rfl rfl rfl rfl rfl rfl ?_
    all_goals rfl

end Go.Proofs.Ytohchoelhnipmaa.Q
