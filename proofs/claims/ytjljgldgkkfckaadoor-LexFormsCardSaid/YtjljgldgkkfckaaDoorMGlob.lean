/- What package-level variables hold that nobody writes, cell by cell (a seat with such variables has a text of its own). -/
import Derived.WalkKit
namespace Go.Proofs.YtjljgldgkkfckaaDoor.M
open Go

def gdat : Nat → Option (List Value) := fun _ => none

end Go.Proofs.YtjljgldgkkfckaaDoor.M
