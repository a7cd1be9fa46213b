/- Runs, for some answers. -/
import Derived.Test.YtabmoalhfggggaaGreatMPlan
import Derived.Test.YtabmoalhfggggaaGreatMOrc
import Derived.KernelRfl
namespace Go.Proofs.YtabmoalhfggggaaGreat.M
open Go

theorem run6 : isOk (runO Tryz.prog glob 13 23 6 60 5 [.sym 0] [] hp0 0 sayTrue sayNo) = true := by kernel_rfl
theorem run7 : isOk (runO Tryz.prog glob 13 23 7 60 5 [.sym 0] [] hp0 0 sayTrue sayNo) = true := by kernel_rfl
theorem run8 : isOk (runO Tryz.prog glob 13 23 8 60 5 [.sym 0] [] hp0 0 sayTrue sayNo) = true := by kernel_rfl
theorem run9 : isOk (runO Tryz.prog glob 13 23 9 60 5 [.sym 0] [] hp0 0 sayTrue sayNo) = true := by kernel_rfl
theorem run10 : isOk (runO Tryz.prog glob 13 23 10 60 5 [.sym 0] [] hp0 0 sayTrue sayNo) = true := by kernel_rfl
theorem run11 : isOk (runO Tryz.prog glob 13 23 11 60 5 [.sym 0] [] hp0 0 sayTrue sayNo) = true := by kernel_rfl

end Go.Proofs.YtabmoalhfggggaaGreat.M
