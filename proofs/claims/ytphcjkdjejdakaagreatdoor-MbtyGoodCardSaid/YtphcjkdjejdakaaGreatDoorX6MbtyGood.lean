/- Texts of this claim, one behind the other. -/
import Derived.Test.YtphcjkdjejdakaaGreatDoorX4MbtyGood
/- Runs of MbtyGood's texts. -/
namespace Go.Proofs.YtphcjkdjejdakaaGreatDoor.M
open Go Go.RowKit
set_option linter.unusedSimpArgs false
set_option linter.unusedVariables false
variable {ρ : Nat → Value}

theorem sP1_0 : Says ρ Tryz.prog 10 tP1_0.1 tP1_0.2 := says_toldD follows glob_ok runG_ok (by kernel_rfl) (by kernel_rfl)
theorem sD1_0 : Says ρ Tryz.prog 11 tD1_0.1 tD1_0.2 := says_toldD follows glob_ok runG_ok (by kernel_rfl) (by kernel_rfl)
theorem sP1_1 : Says ρ Tryz.prog 10 tP1_1.1 tP1_1.2 := says_toldD follows glob_ok runG_ok (by kernel_rfl) (by kernel_rfl)
theorem sD1_1 : Says ρ Tryz.prog 11 tD1_1.1 tD1_1.2 := says_toldD follows glob_ok runG_ok (by kernel_rfl) (by kernel_rfl)
theorem sP1_2 : Says ρ Tryz.prog 10 tP1_2.1 tP1_2.2 := says_toldD follows glob_ok runG_ok (by kernel_rfl) (by kernel_rfl)
theorem sD1_2 : Says ρ Tryz.prog 11 tD1_2.1 tD1_2.2 := says_toldD follows glob_ok runG_ok (by kernel_rfl) (by kernel_rfl)
end Go.Proofs.YtphcjkdjejdakaaGreatDoor.M
