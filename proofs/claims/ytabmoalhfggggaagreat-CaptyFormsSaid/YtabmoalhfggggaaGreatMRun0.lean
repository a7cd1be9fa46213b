/- Runs, for some answers. -/
import Derived.Test.YtabmoalhfggggaaGreatMPlan
import Derived.Test.YtabmoalhfggggaaGreatMOrc
import Derived.KernelRfl
namespace Go.Proofs.YtabmoalhfggggaaGreat.M
open Go

theorem run0 : isOk (runO Tryz.prog glob 13 23 0 60 5 [.sym 0] [] hp0 0 sayTrue sayNo) = true := by kernel_rfl
theorem run1 : isOk (runO Tryz.prog glob 13 23 1 60 5 [.sym 0] [] hp0 0 sayTrue sayNo) = true := by kernel_rfl
theorem run2 : isOk (runO Tryz.prog glob 13 23 2 60 5 [.sym 0] [] hp0 0 sayTrue sayNo) = true := by kernel_rfl
theorem run3 : isOk (runO Tryz.prog glob 13 23 3 60 5 [.sym 0] [] hp0 0 sayTrue sayNo) = true := by kernel_rfl
theorem run4 : isOk (runO Tryz.prog glob 13 23 4 60 5 [.sym 0] [] hp0 0 sayTrue sayNo) = true := by kernel_rfl
theorem run5 : isOk (runO Tryz.prog glob 13 23 5 60 5 [.sym 0] [] hp0 0 sayTrue sayNo) = true := by kernel_rfl

end Go.Proofs.YtabmoalhfggggaaGreat.M
