/- All plans may be followed. -/
import Derived.Test.YtabmoalhfggggaaGreatMPlan
import Derived.KernelRfl
namespace Go.Proofs.YtabmoalhfggggaaGreat.M
open Go

/-- Functions one behind the other. -/
def okR (P : Program) (G : Gl) (a n : Nat) : Bool := (List.range n).all fun i => okF P G (Nat.add a i)
theorem okR_ok {P : Program} {G : Gl} {a n : Nat} (h : okR P G a n = true) (f : Nat) (h1 : a ≤ f) (h2 : f < a + n) : okF P G f = true := by
  unfold okR at h
  rw [List.all_eq_true] at h
  have := h (f - a) (List.mem_range.mpr (by omega))
  rwa [show Nat.add a (f - a) = f by show a + (f - a) = f; omega] at this

theorem ok0 : okR Tryz.prog glob 0 12 = true := by kernel_rfl
theorem ok1 : okR Tryz.prog glob 12 12 = true := by kernel_rfl
theorem ok2 : okR Tryz.prog glob 24 10 = true := by kernel_rfl
theorem ok3 : okR Tryz.prog glob 34 1 = true := by kernel_rfl
theorem ok4 : okR Tryz.prog glob 35 10 = true := by kernel_rfl
theorem ok5 : okR Tryz.prog glob 45 1 = true := by kernel_rfl
theorem ok6 : okR Tryz.prog glob 46 9 = true := by kernel_rfl
theorem ok7 : okR Tryz.prog glob 55 10 = true := by kernel_rfl
theorem ok8 : okR Tryz.prog glob 65 10 = true := by kernel_rfl
theorem ok9 : okR Tryz.prog glob 75 10 = true := by kernel_rfl
theorem ok10 : okR Tryz.prog glob 85 10 = true := by kernel_rfl
theorem ok11 : okR Tryz.prog glob 95 11 = true := by kernel_rfl
theorem ok12 : okR Tryz.prog glob 106 1 = true := by kernel_rfl
theorem ok13 : okR Tryz.prog glob 107 5 = true := by kernel_rfl
theorem ok14 : okR Tryz.prog glob 112 12 = true := by kernel_rfl
theorem ok15 : okR Tryz.prog glob 124 12 = true := by kernel_rfl
theorem ok16 : okR Tryz.prog glob 136 10 = true := by kernel_rfl
theorem ok17 : okR Tryz.prog glob 146 12 = true := by kernel_rfl
theorem ok18 : okR Tryz.prog glob 158 12 = true := by kernel_rfl
theorem ok19 : okR Tryz.prog glob 170 13 = true := by kernel_rfl

theorem funcs_size : Tryz.prog.funcs.size = 183 := by kernel_rfl

theorem glob_ok : GOK' Tryz.prog glob := by
  intro f fn c hf hb
  have hlt := getElem?_lt hf
  rw [funcs_size] at hlt
  have key : okF Tryz.prog glob f = true := by
    rcases Nat.lt_or_ge f 12 with g0 | g0
    · exact okR_ok ok0 f (by omega) (by omega)
    rcases Nat.lt_or_ge f 24 with g1 | g1
    · exact okR_ok ok1 f (by omega) (by omega)
    rcases Nat.lt_or_ge f 34 with g2 | g2
    · exact okR_ok ok2 f (by omega) (by omega)
    rcases Nat.lt_or_ge f 35 with g3 | g3
    · exact okR_ok ok3 f (by omega) (by omega)
    rcases Nat.lt_or_ge f 45 with g4 | g4
    · exact okR_ok ok4 f (by omega) (by omega)
    rcases Nat.lt_or_ge f 46 with g5 | g5
    · exact okR_ok ok5 f (by omega) (by omega)
    rcases Nat.lt_or_ge f 55 with g6 | g6
    · exact okR_ok ok6 f (by omega) (by omega)
    rcases Nat.lt_or_ge f 65 with g7 | g7
    · exact okR_ok ok7 f (by omega) (by omega)
    rcases Nat.lt_or_ge f 75 with g8 | g8
    · exact okR_ok ok8 f (by omega) (by omega)
    rcases Nat.lt_or_ge f 85 with g9 | g9
    · exact okR_ok ok9 f (by omega) (by omega)
    rcases Nat.lt_or_ge f 95 with g10 | g10
    · exact okR_ok ok10 f (by omega) (by omega)
    rcases Nat.lt_or_ge f 106 with g11 | g11
    · exact okR_ok ok11 f (by omega) (by omega)
    rcases Nat.lt_or_ge f 107 with g12 | g12
    · exact okR_ok ok12 f (by omega) (by omega)
    rcases Nat.lt_or_ge f 112 with g13 | g13
    · exact okR_ok ok13 f (by omega) (by omega)
    rcases Nat.lt_or_ge f 124 with g14 | g14
    · exact okR_ok ok14 f (by omega) (by omega)
    rcases Nat.lt_or_ge f 136 with g15 | g15
    · exact okR_ok ok15 f (by omega) (by omega)
    rcases Nat.lt_or_ge f 146 with g16 | g16
    · exact okR_ok ok16 f (by omega) (by omega)
    rcases Nat.lt_or_ge f 158 with g17 | g17
    · exact okR_ok ok17 f (by omega) (by omega)
    rcases Nat.lt_or_ge f 170 with g18 | g18
    · exact okR_ok ok18 f (by omega) (by omega)
    exact okR_ok ok19 f (by omega) (by omega)
  unfold okF at key
  rw [hf] at key
  simp only [hb] at key
  exact key

end Go.Proofs.YtabmoalhfggggaaGreat.M
