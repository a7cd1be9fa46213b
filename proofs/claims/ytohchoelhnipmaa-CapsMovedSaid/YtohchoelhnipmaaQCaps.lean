/- What the small functions of chapter 17 compute. -/
import Derived.Test.YtohchoelhnipmaaQTypes
import Derived.Test.YtohchoelhnipmaaQRun
namespace Go.Proofs.Ytohchoelhnipmaa.Q
open Go Go.RowKit
set_option linter.unusedVariables false
set_option linter.unusedSimpArgs false
attribute [local irreducible] QC QS QA QO QCalls thenK blockK bodyK QR XA QW

def objectM (outer field : Int) (moved : Bool) : Bool :=
  if outer = 1 then moved && (field == 1 || field == 2 || field == 3) else (outer == field && (field == 2 || field == 3 || field == 4))

theorem object_ok (a b : Int) (m : Bool) : QPure Try.prog 18 [.sc (.int .i64 a), .sc (.int .i64 b), .sc (.bool m)] (.sc (.bool (objectM a b m))) := by
  refine ⟨x_init Try.func18 rfl rfl rfl rfl ?_, rfl⟩
  repeat' first
    | (show QS _ _ _ _ _ _; first | refine x_go rfl ?_ | refine x_skip rfl rfl rfl ?_ | refine qs_done ?_ | refine x_skip' rfl rfl ?_ | refine x_split rfl rfl (fun h => ?_) (fun h => ?_))
    | (show QW _ _ _ _ _ _ _; first | refine w_one tyOK rfl rfl rfl ?_ | refine w_store tyOK rfl rfl rfl rfl rfl rfl rfl rfl rfl rfl rfl rfl rfl rfl ?_ | refine w_box rfl rfl rfl rfl rfl rfl rfl rfl rfl ?_ | refine w_alloc tyOK rfl rfl rfl rfl rfl rfl rfl rfl rfl ?_ | refine w_storeA tyOK rfl rfl rfl rfl rfl rfl rfl rfl rfl rfl rfl rfl rfl rfl ?_)
    | (show QC _ _ _ _; first | refine q_seq ?_ | refine q_reg ?_ | refine q_block ?_ | refine q_skip ?_ | refine q_ret ?_ | refine q_exit ?_ | refine x_draw [] rfl rfl rfl ?_ | refine q_cond_t rfl ?_ | refine q_cond_f rfl ?_ | refine q_cond rfl (fun h => ?_) (fun h => ?_))
    | (show thenK _ _ _ _; first | refine k_then ?_ | refine k_then_ret ?_ | refine k_then_exit ?_ | refine k_then_panic ?_)
    | (show blockK _ _ _ _; first | refine k_block ?_ | refine k_block_ret ?_ | refine k_block_here ?_ | refine k_block_past rfl ?_ | refine k_block_panic ?_)
    | (show XA _ _ _ _ _ _ _; first | refine xa_quiet 0 tyOK rfl rfl rfl rfl (by kernel_rfl) (by kernel_rfl) rfl rfl rfl ?_ | refine xa_quiet 1 tyOK rfl rfl rfl rfl (by kernel_rfl) (by kernel_rfl) rfl rfl rfl ?_ | refine xa_quiet 2 tyOK rfl rfl rfl rfl (by kernel_rfl) (by kernel_rfl) rfl rfl rfl ?_ | refine xa_skip 0 rfl rfl rfl (by kernel_rfl) (by kernel_rfl) rfl rfl rfl ?_ | refine xa_skip 1 rfl rfl rfl (by kernel_rfl) (by kernel_rfl) rfl rfl rfl ?_ | refine xa_skip 2 rfl rfl rfl (by kernel_rfl) (by kernel_rfl) rfl rfl rfl ?_ | refine xa_done rfl ?_ | refine xa_slice tyOK rfl rfl rfl rfl rfl rfl rfl rfl rfl rfl rfl rfl rfl rfl rfl rfl rfl rfl ?_)
    | (show bodyK _ _ _ _ _; first | refine k_pure rfl rfl rfl rfl ?_ | refine k_pureA tyOK rfl rfl rfl rfl rfl rfl rfl rfl rfl ?_)
  all_goals simp_all [objectM]

def withinM (v n : Int) : Int := if n < 1 then 0 else
  let k := v.tmod n
  if k < 0 then IntKind.wrap .i64 (k + n) else k

theorem within_ok (a b : Int) : QPure Try.prog 7 [.sc (.int .i64 a), .sc (.int .i64 b)] (.sc (.int .i64 (withinM a b))) := by
  refine ⟨x_init Try.func7 rfl rfl rfl rfl ?_, rfl⟩
  repeat' first
    | (show QS _ _ _ _ _ _; first | refine x_go rfl ?_ | refine x_skip rfl rfl rfl ?_ | refine qs_done ?_ | refine x_skip' rfl rfl ?_ | refine x_split rfl rfl (fun h => ?_) (fun h => ?_))
    | (show QW _ _ _ _ _ _ _; first | refine w_one tyOK rfl rfl rfl ?_ | refine w_store tyOK rfl rfl rfl rfl rfl rfl rfl rfl rfl rfl rfl rfl rfl rfl ?_ | refine w_box rfl rfl rfl rfl rfl rfl rfl rfl rfl ?_ | refine w_alloc tyOK rfl rfl rfl rfl rfl rfl rfl rfl rfl ?_ | refine w_storeA tyOK rfl rfl rfl rfl rfl rfl rfl rfl rfl rfl rfl rfl rfl rfl ?_)
    | (show QC _ _ _ _; first | refine q_seq ?_ | refine q_reg ?_ | refine q_block ?_ | refine q_skip ?_ | refine q_ret ?_ | refine q_exit ?_ | refine x_draw [] rfl rfl rfl ?_ | refine q_cond_t rfl ?_ | refine q_cond_f rfl ?_ | refine q_cond rfl (fun h => ?_) (fun h => ?_))
    | (show thenK _ _ _ _; first | refine k_then ?_ | refine k_then_ret ?_ | refine k_then_exit ?_ | refine k_then_panic ?_)
    | (show blockK _ _ _ _; first | refine k_block ?_ | refine k_block_ret ?_ | refine k_block_here ?_ | refine k_block_past rfl ?_ | refine k_block_panic ?_)
    | (show XA _ _ _ _ _ _ _; first | refine xa_quiet 0 tyOK rfl rfl rfl rfl (by kernel_rfl) (by kernel_rfl) rfl rfl rfl ?_ | refine xa_quiet 1 tyOK rfl rfl rfl rfl (by kernel_rfl) (by kernel_rfl) rfl rfl rfl ?_ | refine xa_quiet 2 tyOK rfl rfl rfl rfl (by kernel_rfl) (by kernel_rfl) rfl rfl rfl ?_ | refine xa_skip 0 rfl rfl rfl (by kernel_rfl) (by kernel_rfl) rfl rfl rfl ?_ | refine xa_skip 1 rfl rfl rfl (by kernel_rfl) (by kernel_rfl) rfl rfl rfl ?_ | refine xa_skip 2 rfl rfl rfl (by kernel_rfl) (by kernel_rfl) rfl rfl rfl ?_ | refine xa_done rfl ?_ | refine xa_slice tyOK rfl rfl rfl rfl rfl rfl rfl rfl rfl rfl rfl rfl rfl rfl rfl rfl rfl rfl ?_)
    | (show bodyK _ _ _ _ _; first | refine k_pure rfl rfl rfl rfl ?_ | refine k_pureA tyOK rfl rfl rfl rfl rfl rfl rfl rfl rfl ?_)
    | refine w_rem rfl rfl rfl rfl rfl (by simp at *; omega) ?_
  all_goals (simp [withinM]; try simp at *; try split <;> first | omega | rfl | skip)

structure Ty where
  kind : Int
  cap : Int
  rk : Int
  name : ByteArray
  p : Option Addr
  l : Nat
  c : Nat

def Ty.v (t : Ty) : V := .agg [.sc (.int .i64 t.kind), .sc (.int .i64 t.cap), .sc (.int .i64 t.rk), .sc (.string t.name), .sc (.slice t.p t.l t.c)]

def sendableM (t : Ty) : Bool := t.kind == 1 || t.kind == 3 || t.kind == 4 || t.kind == 5 || (t.kind == 2 && (t.cap == 1 || t.cap == 2 || t.cap == 4))

theorem sendable_ok (t : Ty) : QPure Try.prog 13 [t.v] (.sc (.bool (sendableM t))) := by
  refine ⟨x_init Try.func13 rfl rfl rfl rfl ?_, rfl⟩
  repeat' first
    | (show QS _ _ _ _ _ _; first | refine x_go rfl ?_ | refine x_skip rfl rfl rfl ?_ | refine qs_done ?_ | refine x_skip' rfl rfl ?_ | refine x_split rfl rfl (fun h => ?_) (fun h => ?_))
    | (show QW _ _ _ _ _ _ _; first | refine w_one tyOK rfl rfl rfl ?_ | refine w_store tyOK rfl rfl rfl rfl rfl rfl rfl rfl rfl rfl rfl rfl rfl rfl ?_ | refine w_box rfl rfl rfl rfl rfl rfl rfl rfl rfl ?_ | refine w_alloc tyOK rfl rfl rfl rfl rfl rfl rfl rfl rfl ?_ | refine w_storeA tyOK rfl rfl rfl rfl rfl rfl rfl rfl rfl rfl rfl rfl rfl rfl ?_)
    | (show QC _ _ _ _; first | refine q_seq ?_ | refine q_reg ?_ | refine q_block ?_ | refine q_skip ?_ | refine q_ret ?_ | refine q_exit ?_ | refine x_draw [] rfl rfl rfl ?_ | refine q_cond_t rfl ?_ | refine q_cond_f rfl ?_ | refine q_cond rfl (fun h => ?_) (fun h => ?_))
    | (show thenK _ _ _ _; first | refine k_then ?_ | refine k_then_ret ?_ | refine k_then_exit ?_ | refine k_then_panic ?_)
    | (show blockK _ _ _ _; first | refine k_block ?_ | refine k_block_ret ?_ | refine k_block_here ?_ | refine k_block_past rfl ?_ | refine k_block_panic ?_)
    | (show XA _ _ _ _ _ _ _; first | refine xa_quiet 0 tyOK rfl rfl rfl rfl (by kernel_rfl) (by kernel_rfl) rfl rfl rfl ?_ | refine xa_quiet 1 tyOK rfl rfl rfl rfl (by kernel_rfl) (by kernel_rfl) rfl rfl rfl ?_ | refine xa_quiet 2 tyOK rfl rfl rfl rfl (by kernel_rfl) (by kernel_rfl) rfl rfl rfl ?_ | refine xa_skip 0 rfl rfl rfl (by kernel_rfl) (by kernel_rfl) rfl rfl rfl ?_ | refine xa_skip 1 rfl rfl rfl (by kernel_rfl) (by kernel_rfl) rfl rfl rfl ?_ | refine xa_skip 2 rfl rfl rfl (by kernel_rfl) (by kernel_rfl) rfl rfl rfl ?_ | refine xa_done rfl ?_ | refine xa_slice tyOK rfl rfl rfl rfl rfl rfl rfl rfl rfl rfl rfl rfl rfl rfl rfl rfl rfl rfl ?_)
    | (show bodyK _ _ _ _ _; first | refine k_pure rfl rfl rfl rfl ?_ | refine k_pureA tyOK rfl rfl rfl rfl rfl rfl rfl rfl rfl ?_)
  all_goals simp_all [sendableM]

def fitsM (h w : Ty) (moved : Bool) : Bool :=
  if w.kind = 1 then h.kind == 1 else if w.kind = 2 then h.kind == 2 && h.rk == w.rk && objectM h.cap w.cap moved
  else if w.kind = 3 ∨ w.kind = 4 then h.kind == 3 || h.kind == 4 || h.kind == 5 else false

set_option maxHeartbeats 4000000 in
theorem fits_ok (a b : Ty) (m : Bool) : QPure Try.prog 12 [a.v, b.v, .sc (.bool m)] (.sc (.bool (fitsM a b m))) := by
  refine ⟨x_init Try.func12 rfl rfl rfl rfl ?_, rfl⟩
  repeat' first
    | (show QS _ _ _ _ _ _; first | refine x_go rfl ?_ | refine x_skip rfl rfl rfl ?_ | refine qs_done ?_ | refine x_skip' rfl rfl ?_ | refine x_split rfl rfl (fun h => ?_) (fun h => ?_))
    | (show QW _ _ _ _ _ _ _; first | refine w_one tyOK rfl rfl rfl ?_ | refine w_store tyOK rfl rfl rfl rfl rfl rfl rfl rfl rfl rfl rfl rfl rfl rfl ?_ | refine w_box rfl rfl rfl rfl rfl rfl rfl rfl rfl ?_ | refine w_alloc tyOK rfl rfl rfl rfl rfl rfl rfl rfl rfl ?_ | refine w_storeA tyOK rfl rfl rfl rfl rfl rfl rfl rfl rfl rfl rfl rfl rfl rfl ?_)
    | (show QC _ _ _ _; first | refine q_seq ?_ | refine q_reg ?_ | refine q_block ?_ | refine q_skip ?_ | refine q_ret ?_ | refine q_exit ?_ | refine x_draw [] rfl rfl rfl ?_ | refine q_cond_t rfl ?_ | refine q_cond_f rfl ?_ | refine q_cond rfl (fun h => ?_) (fun h => ?_))
    | (show thenK _ _ _ _; first | refine k_then ?_ | refine k_then_ret ?_ | refine k_then_exit ?_ | refine k_then_panic ?_)
    | (show blockK _ _ _ _; first | refine k_block ?_ | refine k_block_ret ?_ | refine k_block_here ?_ | refine k_block_past rfl ?_ | refine k_block_panic ?_)
    | (show XA _ _ _ _ _ _ _; first | refine xa_quiet 0 tyOK rfl rfl rfl rfl (by kernel_rfl) (by kernel_rfl) rfl rfl rfl ?_ | refine xa_quiet 1 tyOK rfl rfl rfl rfl (by kernel_rfl) (by kernel_rfl) rfl rfl rfl ?_ | refine xa_quiet 2 tyOK rfl rfl rfl rfl (by kernel_rfl) (by kernel_rfl) rfl rfl rfl ?_ | refine xa_skip 0 rfl rfl rfl (by kernel_rfl) (by kernel_rfl) rfl rfl rfl ?_ | refine xa_skip 1 rfl rfl rfl (by kernel_rfl) (by kernel_rfl) rfl rfl rfl ?_ | refine xa_skip 2 rfl rfl rfl (by kernel_rfl) (by kernel_rfl) rfl rfl rfl ?_ | refine xa_done rfl ?_ | refine xa_slice tyOK rfl rfl rfl rfl rfl rfl rfl rfl rfl rfl rfl rfl rfl rfl rfl rfl rfl rfl ?_)
    | (show bodyK _ _ _ _ _; first | refine k_pure rfl rfl rfl rfl ?_ | refine k_pureA tyOK rfl rfl rfl rfl rfl rfl rfl rfl rfl ?_)
    | refine w_pure (object_ok _ _ _) Try.func18 rfl rfl rfl rfl rfl rfl rfl ?_
  all_goals simp_all [fitsM]

def ofM (n : Int) : Ty :=
  let k := (withinM n 8).tmod 6
  ⟨if 5 < k then 2 else k, withinM (IntKind.wrap .i64 (n.tdiv 8)) 5, IntKind.wrap .i64 (withinM (IntKind.wrap .i64 (n.tdiv 64)) 3 - 1), ⟨#[]⟩, none, 0, 0⟩

set_option maxHeartbeats 4000000 in
theorem of_ok (n : Int) : QPure Try.prog 11 [.sc (.int .i64 n)] (ofM n).v := by
  refine ⟨x_init Try.func11 rfl rfl rfl rfl ?_, rfl⟩
  repeat' first
    | (show QS _ _ _ _ _ _; first | refine x_go rfl ?_ | refine x_skip rfl rfl rfl ?_ | refine qs_done ?_ | refine x_skip' rfl rfl ?_ | refine x_split rfl rfl (fun h => ?_) (fun h => ?_))
    | (show QW _ _ _ _ _ _ _; first | refine w_one tyOK rfl rfl rfl ?_ | refine w_store tyOK rfl rfl rfl rfl rfl rfl rfl rfl rfl rfl rfl rfl rfl rfl ?_ | refine w_box rfl rfl rfl rfl rfl rfl rfl rfl rfl ?_ | refine w_alloc tyOK rfl rfl rfl rfl rfl rfl rfl rfl rfl ?_ | refine w_storeA tyOK rfl rfl rfl rfl rfl rfl rfl rfl rfl rfl rfl rfl rfl rfl ?_)
    | (show QC _ _ _ _; first | refine q_seq ?_ | refine q_reg ?_ | refine q_block ?_ | refine q_skip ?_ | refine q_ret ?_ | refine q_exit ?_ | refine x_draw [] rfl rfl rfl ?_ | refine q_cond_t rfl ?_ | refine q_cond_f rfl ?_ | refine q_cond rfl (fun h => ?_) (fun h => ?_))
    | (show thenK _ _ _ _; first | refine k_then ?_ | refine k_then_ret ?_ | refine k_then_exit ?_ | refine k_then_panic ?_)
    | (show blockK _ _ _ _; first | refine k_block ?_ | refine k_block_ret ?_ | refine k_block_here ?_ | refine k_block_past rfl ?_ | refine k_block_panic ?_)
    | (show XA _ _ _ _ _ _ _; first | refine xa_quiet 0 tyOK rfl rfl rfl rfl (by kernel_rfl) (by kernel_rfl) rfl rfl rfl ?_ | refine xa_quiet 1 tyOK rfl rfl rfl rfl (by kernel_rfl) (by kernel_rfl) rfl rfl rfl ?_ | refine xa_quiet 2 tyOK rfl rfl rfl rfl (by kernel_rfl) (by kernel_rfl) rfl rfl rfl ?_ | refine xa_skip 0 rfl rfl rfl (by kernel_rfl) (by kernel_rfl) rfl rfl rfl ?_ | refine xa_skip 1 rfl rfl rfl (by kernel_rfl) (by kernel_rfl) rfl rfl rfl ?_ | refine xa_skip 2 rfl rfl rfl (by kernel_rfl) (by kernel_rfl) rfl rfl rfl ?_ | refine xa_done rfl ?_ | refine xa_slice tyOK rfl rfl rfl rfl rfl rfl rfl rfl rfl rfl rfl rfl rfl rfl rfl rfl rfl rfl ?_)
    | (show bodyK _ _ _ _ _; first | refine k_pure rfl rfl rfl rfl ?_ | refine k_pureA tyOK rfl rfl rfl rfl rfl rfl rfl rfl rfl ?_)
    | refine w_pure (within_ok _ _) Try.func7 rfl rfl rfl rfl rfl rfl rfl ?_
    | refine w_rem rfl rfl rfl rfl rfl (by decide) ?_
    | refine w_quo rfl rfl rfl rfl rfl (by decide) ?_
  all_goals
    simp at h
    simp [ofM, Ty.v, putRow, ti31, cellsV, h]
    try omega

end Go.Proofs.Ytohchoelhnipmaa.Q
