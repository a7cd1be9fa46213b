/- Runs, for some answers. -/
import Derived.Test.YtabmoalhfggggaaGreatMPlan
import Derived.Test.YtabmoalhfggggaaGreatMOrc
import Derived.KernelRfl
namespace Go.Proofs.YtabmoalhfggggaaGreat.M
open Go

theorem run12 : isOk (runO Tryz.prog glob 13 23 12 60 5 [.sym 0] [] hp0 0 sayTrue sayNo) = true := by kernel_rfl
theorem run13 : isOk (runO Tryz.prog glob 13 23 13 60 5 [.sym 0] [] hp0 0 sayTrue sayNo) = true := by kernel_rfl
theorem run14 : isOk (runO Tryz.prog glob 13 23 14 60 5 [.sym 0] [] hp0 0 sayTrue sayNo) = true := by kernel_rfl
theorem run15 : isOk (runO Tryz.prog glob 13 23 15 60 5 [.sym 0] [] hp0 0 sayTrue sayNo) = true := by kernel_rfl
theorem run16 : isOk (runO Tryz.prog glob 13 23 16 60 5 [.sym 0] [] hp0 0 sayTrue sayNo) = true := by kernel_rfl
theorem run17 : isOk (runO Tryz.prog glob 13 23 17 60 5 [.sym 0] [] hp0 0 sayTrue sayNo) = true := by kernel_rfl

end Go.Proofs.YtabmoalhfggggaaGreat.M
