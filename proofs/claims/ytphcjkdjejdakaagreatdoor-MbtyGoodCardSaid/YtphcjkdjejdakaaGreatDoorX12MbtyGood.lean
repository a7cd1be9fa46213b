/- Texts of this claim, one behind the other. -/
import Derived.Test.YtphcjkdjejdakaaGreatDoorX4MbtyGood
/- Runs of MbtyGood's texts. -/
namespace Go.Proofs.YtphcjkdjejdakaaGreatDoor.M
open Go Go.RowKit
set_option linter.unusedSimpArgs false
set_option linter.unusedVariables false
variable {ρ : Nat → Value}

theorem sP4_6 : Says ρ Tryz.prog 10 tP4_6.1 tP4_6.2 := says_toldD follows glob_ok runG_ok (by kernel_rfl) (by kernel_rfl)
theorem sD4_6 : Says ρ Tryz.prog 11 tD4_6.1 tD4_6.2 := says_toldD follows glob_ok runG_ok (by kernel_rfl) (by kernel_rfl)
theorem sP5_3 : Says ρ Tryz.prog 10 tP5_3.1 tP5_3.2 := says_toldD follows glob_ok runG_ok (by kernel_rfl) (by kernel_rfl)
theorem sD5_3 : Says ρ Tryz.prog 11 tD5_3.1 tD5_3.2 := says_toldD follows glob_ok runG_ok (by kernel_rfl) (by kernel_rfl)
theorem sP5_4 : Says ρ Tryz.prog 10 tP5_4.1 tP5_4.2 := says_toldD follows glob_ok runG_ok (by kernel_rfl) (by kernel_rfl)
theorem sD5_4 : Says ρ Tryz.prog 11 tD5_4.1 tD5_4.2 := says_toldD follows glob_ok runG_ok (by kernel_rfl) (by kernel_rfl)
end Go.Proofs.YtphcjkdjejdakaaGreatDoor.M
