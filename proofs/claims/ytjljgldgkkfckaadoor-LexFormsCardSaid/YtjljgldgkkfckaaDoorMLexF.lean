/- LexForms, all. -/
import Derived.Test.YtjljgldgkkfckaaDoorMLexFlo1
import Derived.Test.YtjljgldgkkfckaaDoorMLexFlo2
import Derived.Test.YtjljgldgkkfckaaDoorMLexFhi1
import Derived.Test.YtjljgldgkkfckaaDoorMLexFhi2
namespace Go.Proofs.YtjljgldgkkfckaaDoor.M
open Go
set_option linter.unusedSimpArgs false
set_option linter.unusedVariables false
variable {ρ : Nat → Value}

theorem lexForms_lo (z : Int) (c : Nat) (hc : c < 256) (h : withinN z 14 + 1 ≤ 9) : Says ρ Tryd.prog 6 [.int .i64 z, .int .u8 (.ofNat c)] (.bool true) := by
  by_cases hp : plainP c
  · rcases hp with g | g | g | g
    · exact lexForms_lo_letter z c hc h g
    · exact lexForms_lo_digit z c hc h g
    · exact lexForms_lo_under z c hc h g
    · exact lexForms_lo_rem z c hc h g
  by_cases hb : c = 32 ∨ c = 9 ∨ c = 10
  · exact lexForms_lo_blank z c hc h hb
  cases hs : signB c with
  | true => exact lexForms_lo_sign z c hc h ⟨hp, hb, hs⟩
  | false => exact lexForms_lo_none z c hc h ⟨hp, hb, hs⟩

theorem lexForms_hi (z : Int) (c : Nat) (hc : c < 256) (h : 9 < withinN z 14 + 1) : Says ρ Tryd.prog 6 [.int .i64 z, .int .u8 (.ofNat c)] (.bool true) := by
  by_cases hp : plainP c
  · rcases hp with g | g | g | g
    · exact lexForms_hi_letter z c hc h g
    · exact lexForms_hi_digit z c hc h g
    · exact lexForms_hi_under z c hc h g
    · exact lexForms_hi_rem z c hc h g
  by_cases hb : c = 32 ∨ c = 9 ∨ c = 10
  · exact lexForms_hi_blank z c hc h hb
  cases hs : signB c with
  | true => exact lexForms_hi_sign z c hc h ⟨hp, hb, hs⟩
  | false => exact lexForms_hi_none z c hc h ⟨hp, hb, hs⟩

end Go.Proofs.YtjljgldgkkfckaaDoor.M
