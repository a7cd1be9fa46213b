/- Texts of this claim, one behind the other. -/
import Derived.Test.YtphcjkdjejdakaaGreatDoorX4MbtyGood
/- Runs of MbtyGood's texts. -/
namespace Go.Proofs.YtphcjkdjejdakaaGreatDoor.M
open Go Go.RowKit
set_option linter.unusedSimpArgs false
set_option linter.unusedVariables false
variable {ρ : Nat → Value}

theorem sP4_3 : Says ρ Tryz.prog 10 tP4_3.1 tP4_3.2 := says_toldD follows glob_ok runG_ok (by kernel_rfl) (by kernel_rfl)
theorem sD4_3 : Says ρ Tryz.prog 11 tD4_3.1 tD4_3.2 := says_toldD follows glob_ok runG_ok (by kernel_rfl) (by kernel_rfl)
theorem sP4_4 : Says ρ Tryz.prog 10 tP4_4.1 tP4_4.2 := says_toldD follows glob_ok runG_ok (by kernel_rfl) (by kernel_rfl)
theorem sD4_4 : Says ρ Tryz.prog 11 tD4_4.1 tD4_4.2 := says_toldD follows glob_ok runG_ok (by kernel_rfl) (by kernel_rfl)
theorem sP4_5 : Says ρ Tryz.prog 10 tP4_5.1 tP4_5.2 := says_toldD follows glob_ok runG_ok (by kernel_rfl) (by kernel_rfl)
theorem sD4_5 : Says ρ Tryz.prog 11 tD4_5.1 tD4_5.2 := says_toldD follows glob_ok runG_ok (by kernel_rfl) (by kernel_rfl)
end Go.Proofs.YtphcjkdjejdakaaGreatDoor.M
