/- CapsView: whatever two numbers come in, what is read through an object may be written just if the object may and nobody else has it. Conditions: none. -/
import Derived.Test.YtohchoelhnipmaaPCapsViewx2
namespace Go.Proofs.Ytohchoelhnipmaa.Pure
open Go.RowKit Go.Proofs.Ytohchoelhnipmaa.PCapsView Go.Proofs.YtohchoelhnipmaaW.PrintWords Go.Proofs.YtohchoelhnipmaaW.PrintLast

theorem within4 (a : Int) : ∃ r, columbarykeep_Within.f a 4 = some r ∧ (r = 0 ∨ r = 1 ∨ r = 2 ∨ r = 3) := by
  unfold columbarykeep_Within.f
  rw [if_neg (by decide), if_neg (by decide)]
  have h1 := Int.tmod_lt_of_pos a (show (0 : Int) < 4 by decide)
  have h2 := Int.lt_tmod_of_pos a (show (0 : Int) < 4 by decide)
  split
  · refine ⟨_, rfl, ?_⟩
    unfold wrap64
    omega
  · refine ⟨_, rfl, ?_⟩
    omega

theorem CapsView : columbarylaw17_CapsView.Pure := by
  intro a0 a1 _ _
  obtain ⟨r, hr, h⟩ := within4 a0
  obtain ⟨s, hs, g⟩ := within4 a1
  refine ⟨10, ?_⟩
  unfold columbarylaw17_CapsView.f
  rw [hr, hs]
  simp only [Option.bind_some]
  rcases h with rfl | rfl | rfl | rfl <;> rcases g with rfl | rfl | rfl | rfl <;> decide +kernel

end Go.Proofs.Ytohchoelhnipmaa.Pure
