/- LexForms, all. -/
import Derived.Test.YtjljgldgkkfckaaDoorMLexFlo1
import Derived.Test.YtjljgldgkkfckaaDoorMLexFlo2
import Derived.Test.YtjljgldgkkfckaaDoorMLexFhi1
import Derived.Test.YtjljgldgkkfckaaDoorMLexFhi2
namespace Go.Proofs.YtjljgldgkkfckaaDoor.M
open Go
set_option linter.unusedSimpArgs false
set_option linter.unusedVariables false
variable {ρ : Nat → Value}

theorem lexForms_lo (z : Int) (c : Nat) (hc : c < 256) (h : withinN z 14 + 1 ≤ 9) : Says ρ Tryd.prog 6 [.int .i64 z, .int .u8 (.ofNat c)] (.bool true) := by
  by_cases hp : plainP c
  · rcases hp with g | g | g | g
    · exact lexForms_lo_letter z c hc h g
    · exact lexForms_lo_digit z c hc h g
    · exact lexForms_lo_under z c hc h g
    · exact lexForms_lo_rem z c hc h g
  by_cases hb : c = 32 ∨ c = 9 ∨ c = 10
  · exact lexForms_lo_blank z c hc h hb
  unfold plainP at hp
  rcases (show 123 ≤ c ∨ (c < 48 ∧ c ≠ 35 ∧ c ≠ 32 ∧ c ≠ 9 ∧ c ≠ 10) ∨ (58 ≤ c ∧ c ≤ 96 ∧ c ≠ 95) by omega) with g | g | g
  all_goals cases hs : signB c
  · exact lexForms_lo_none_a z c hc h ⟨g, hs⟩
  · exact lexForms_lo_sign_a z c hc h ⟨g, hs⟩
  · exact lexForms_lo_none_b z c hc h ⟨g, hs⟩
  · exact lexForms_lo_sign_b z c hc h ⟨g, hs⟩
  · exact lexForms_lo_none_c z c hc h ⟨g, hs⟩
  · exact lexForms_lo_sign_c z c hc h ⟨g, hs⟩

theorem lexForms_hi (z : Int) (c : Nat) (hc : c < 256) (h : 9 < withinN z 14 + 1) : Says ρ Tryd.prog 6 [.int .i64 z, .int .u8 (.ofNat c)] (.bool true) := by
  by_cases hp : plainP c
  · rcases hp with g | g | g | g
    · exact lexForms_hi_letter z c hc h g
    · exact lexForms_hi_digit z c hc h g
    · exact lexForms_hi_under z c hc h g
    · exact lexForms_hi_rem z c hc h g
  by_cases hb : c = 32 ∨ c = 9 ∨ c = 10
  · exact lexForms_hi_blank z c hc h hb
  unfold plainP at hp
  rcases (show 123 ≤ c ∨ (c < 48 ∧ c ≠ 35 ∧ c ≠ 32 ∧ c ≠ 9 ∧ c ≠ 10) ∨ (58 ≤ c ∧ c ≤ 96 ∧ c ≠ 95) by omega) with g | g | g
  all_goals cases hs : signB c
  · exact lexForms_hi_none_a z c hc h ⟨g, hs⟩
  · exact lexForms_hi_sign_a z c hc h ⟨g, hs⟩
  · exact lexForms_hi_none_b z c hc h ⟨g, hs⟩
  · exact lexForms_hi_sign_b z c hc h ⟨g, hs⟩
  · exact lexForms_hi_none_c z c hc h ⟨g, hs⟩
  · exact lexForms_hi_sign_c z c hc h ⟨g, hs⟩

end Go.Proofs.YtjljgldgkkfckaaDoor.M
