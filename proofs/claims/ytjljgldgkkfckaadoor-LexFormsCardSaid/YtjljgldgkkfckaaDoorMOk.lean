/- All plans may be followed. -/
import Derived.Test.YtjljgldgkkfckaaDoorMPlan
import Derived.KernelRfl
namespace Go.Proofs.YtjljgldgkkfckaaDoor.M
open Go

/-- Functions one behind the other. -/
def okR (P : Program) (G : Gl) (a n : Nat) : Bool := (List.range n).all fun i => okF P G (Nat.add a i)
theorem okR_ok {P : Program} {G : Gl} {a n : Nat} (h : okR P G a n = true) (f : Nat) (h1 : a ≤ f) (h2 : f < a + n) : okF P G f = true := by
  unfold okR at h
  rw [List.all_eq_true] at h
  have := h (f - a) (List.mem_range.mpr (by omega))
  rwa [show Nat.add a (f - a) = f by show a + (f - a) = f; omega] at this

theorem ok0 : okR Tryd.prog glob 0 12 = true := by kernel_rfl
theorem ok1 : okR Tryd.prog glob 12 12 = true := by kernel_rfl
theorem ok2 : okR Tryd.prog glob 24 12 = true := by kernel_rfl
theorem ok3 : okR Tryd.prog glob 36 12 = true := by kernel_rfl
theorem ok4 : okR Tryd.prog glob 48 12 = true := by kernel_rfl
theorem ok5 : okR Tryd.prog glob 60 12 = true := by kernel_rfl
theorem ok6 : okR Tryd.prog glob 72 12 = true := by kernel_rfl
theorem ok7 : okR Tryd.prog glob 84 12 = true := by kernel_rfl
theorem ok8 : okR Tryd.prog glob 96 11 = true := by kernel_rfl

theorem funcs_size : Tryd.prog.funcs.size = 107 := by kernel_rfl

theorem glob_ok : GOK' Tryd.prog glob := by
  intro f fn c hf hb
  have hlt := getElem?_lt hf
  rw [funcs_size] at hlt
  have key : okF Tryd.prog glob f = true := by
    rcases Nat.lt_or_ge f 12 with g0 | g0
    · exact okR_ok ok0 f (by omega) (by omega)
    rcases Nat.lt_or_ge f 24 with g1 | g1
    · exact okR_ok ok1 f (by omega) (by omega)
    rcases Nat.lt_or_ge f 36 with g2 | g2
    · exact okR_ok ok2 f (by omega) (by omega)
    rcases Nat.lt_or_ge f 48 with g3 | g3
    · exact okR_ok ok3 f (by omega) (by omega)
    rcases Nat.lt_or_ge f 60 with g4 | g4
    · exact okR_ok ok4 f (by omega) (by omega)
    rcases Nat.lt_or_ge f 72 with g5 | g5
    · exact okR_ok ok5 f (by omega) (by omega)
    rcases Nat.lt_or_ge f 84 with g6 | g6
    · exact okR_ok ok6 f (by omega) (by omega)
    rcases Nat.lt_or_ge f 96 with g7 | g7
    · exact okR_ok ok7 f (by omega) (by omega)
    exact okR_ok ok8 f (by omega) (by omega)
  unfold okF at key
  rw [hf] at key
  simp only [hb] at key
  exact key

theorem globL_ok : GOK' Tryd.prog globL := glob_ok

end Go.Proofs.YtjljgldgkkfckaaDoor.M
