/- Runs, for some answers. -/
import Derived.Test.YtabmoalhfggggaaGreatMPlan
import Derived.Test.YtabmoalhfggggaaGreatMOrc
import Derived.KernelRfl
namespace Go.Proofs.YtabmoalhfggggaaGreat.M
open Go

theorem run18 : isOk (runO Tryz.prog glob 13 23 18 60 5 [.sym 0] [] hp0 0 sayTrue sayNo) = true := by kernel_rfl
theorem run19 : isOk (runO Tryz.prog glob 13 23 19 60 5 [.sym 0] [] hp0 0 sayTrue sayNo) = true := by kernel_rfl
theorem run20 : isOk (runO Tryz.prog glob 13 23 20 60 5 [.sym 0] [] hp0 0 sayTrue sayNo) = true := by kernel_rfl
theorem run21 : isOk (runO Tryz.prog glob 13 23 21 60 5 [.sym 0] [] hp0 0 sayTrue sayNo) = true := by kernel_rfl
theorem run22 : isOk (runO Tryz.prog glob 13 23 22 60 5 [.sym 0] [] hp0 0 sayTrue sayNo) = true := by kernel_rfl

end Go.Proofs.YtabmoalhfggggaaGreat.M
