/- Texts of this claim, one behind the other. -/
import Derived.Test.YtphcjkdjejdakaaGreatDoorX4MbtyGood
/- Runs of MbtyGood's texts. -/
namespace Go.Proofs.YtphcjkdjejdakaaGreatDoor.M
open Go Go.RowKit
set_option linter.unusedSimpArgs false
set_option linter.unusedVariables false
variable {ρ : Nat → Value}

theorem sP3_4 : Says ρ Tryz.prog 10 tP3_4.1 tP3_4.2 := says_toldD follows glob_ok runG_ok (by kernel_rfl) (by kernel_rfl)
theorem sD3_4 : Says ρ Tryz.prog 11 tD3_4.1 tD3_4.2 := says_toldD follows glob_ok runG_ok (by kernel_rfl) (by kernel_rfl)
theorem sP3_5 : Says ρ Tryz.prog 10 tP3_5.1 tP3_5.2 := says_toldD follows glob_ok runG_ok (by kernel_rfl) (by kernel_rfl)
theorem sD3_5 : Says ρ Tryz.prog 11 tD3_5.1 tD3_5.2 := says_toldD follows glob_ok runG_ok (by kernel_rfl) (by kernel_rfl)
theorem sP4_2 : Says ρ Tryz.prog 10 tP4_2.1 tP4_2.2 := says_toldD follows glob_ok runG_ok (by kernel_rfl) (by kernel_rfl)
theorem sD4_2 : Says ρ Tryz.prog 11 tD4_2.1 tD4_2.2 := says_toldD follows glob_ok runG_ok (by kernel_rfl) (by kernel_rfl)
end Go.Proofs.YtphcjkdjejdakaaGreatDoor.M
