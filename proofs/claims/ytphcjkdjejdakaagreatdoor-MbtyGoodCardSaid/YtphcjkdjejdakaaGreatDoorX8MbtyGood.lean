/- Texts of this claim, one behind the other. -/
import Derived.Test.YtphcjkdjejdakaaGreatDoorX4MbtyGood
/- Runs of MbtyGood's texts. -/
namespace Go.Proofs.YtphcjkdjejdakaaGreatDoor.M
open Go Go.RowKit
set_option linter.unusedSimpArgs false
set_option linter.unusedVariables false
variable {ρ : Nat → Value}

theorem sP2_2 : Says ρ Tryz.prog 10 tP2_2.1 tP2_2.2 := says_toldD follows glob_ok runG_ok (by kernel_rfl) (by kernel_rfl)
theorem sD2_2 : Says ρ Tryz.prog 11 tD2_2.1 tD2_2.2 := says_toldD follows glob_ok runG_ok (by kernel_rfl) (by kernel_rfl)
theorem sP2_3 : Says ρ Tryz.prog 10 tP2_3.1 tP2_3.2 := says_toldD follows glob_ok runG_ok (by kernel_rfl) (by kernel_rfl)
theorem sD2_3 : Says ρ Tryz.prog 11 tD2_3.1 tD2_3.2 := says_toldD follows glob_ok runG_ok (by kernel_rfl) (by kernel_rfl)
theorem sP2_4 : Says ρ Tryz.prog 10 tP2_4.1 tP2_4.2 := says_toldD follows glob_ok runG_ok (by kernel_rfl) (by kernel_rfl)
theorem sD2_4 : Says ρ Tryz.prog 11 tD2_4.1 tD2_4.2 := says_toldD follows glob_ok runG_ok (by kernel_rfl) (by kernel_rfl)
end Go.Proofs.YtphcjkdjejdakaaGreatDoor.M
