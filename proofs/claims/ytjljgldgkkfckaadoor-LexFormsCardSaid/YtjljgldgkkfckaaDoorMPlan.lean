/- The plans of this program's drawn regions (printed by plan.lean). -/
import Derived.Test.YtjljgldgkkfckaaDoorMEf
import Derived.Test.YtjljgldgkkfckaaDoorProg
namespace Go.Proofs.YtjljgldgkkfckaaDoor.M
open Go
def pl4 (r : Nat) : List Plan := match r with
  | 11 => [.s (.q 0), .s (.q 1), .s (.q 2), .s (.q 3), .s (.q 4), .s (.q 5), .s (.q 6), .s (.q 7), .s (.q 8), .s (.q 9), .s (.q 10), .s (.q 11), .s (.q 12), .s (.q 13), .s (.q 14), .s (.q 15), .s (.q 16), .s (.q 17), .s (.q 18), .s (.q 19), .s (.q 20), .s (.q 21), .s (.q 22), .s (.q 23), .s (.q 24), .s (.q 25), .s (.q 26)]
  | 13 => [.s (.q 0), .s (.q 1), .s (.q 2), .s (.q 3), .s (.q 4), .s (.q 5), .s (.q 6), .s (.q 7), .s (.q 8), .s (.q 9), .s (.q 10), .s (.q 11), .s (.q 12), .s (.q 13), .s (.q 14)]
  | _ => []
def pl5 (r : Nat) : List Plan := match r with
  | 21 => [.s (.q 0), .s (.q 1), .s (.q 2), .s (.q 3), .s (.q 4), .s (.q 5), .s (.q 6), .s (.q 7), .s (.q 8)]
  | 25 => [.s (.q 0), .s (.q 1), .s (.q 2), .s (.q 3), .s (.q 4), .s (.q 5)]
  | _ => []
def pl10 (r : Nat) : List Plan := match r with
  | 7 => [.s (.q 0), .s (.q 1), .s (.q 2), .s (.q 3), .s (.q 4), .s (.q 5), .s (.q 6), .s (.q 7)]
  | _ => []
def pl12 (r : Nat) : List Plan := match r with
  | 6 => [.s (.q 0), .s (.q 1), .s (.q 2), .s (.q 3), .s (.q 4), .s (.q 5), .s (.q 6), .s (.q 7), .s (.q 8)]
  | _ => []
def pl22 (r : Nat) : List Plan := match r with
  | 6 => [.s (.q 0), .s (.q 1), .s (.q 2), .s (.q 3), .s (.q 4), .s (.q 5), .s (.q 6), .s (.q 7), .s (.q 8), .s (.q 9), .s (.q 10), .s (.q 11), .s (.q 12), .s (.q 13), .s (.q 14), .s (.l 15 [1, 2, 12, 15, 16, 17, 18, 19, 20, 21]), .s (.q 16), .s (.q 17), .s (.l 18 [2, 18, 19, 20, 21]), .s (.q 19), .s (.q 20), .s (.l 21 [21])]
  | _ => []
def pl23 (r : Nat) : List Plan := match r with
  | 1 => [.s (.q 0), .s (.q 1), .s (.q 2), .s (.q 3), .s (.q 4), .s (.q 5), .s (.q 6), .s (.q 7), .s (.q 8), .s (.l 9 [0, 1, 2, 3, 4, 5, 6, 7, 8, 9, 10]), .s (.l 10 [10])]
  | _ => []
def pl35 (r : Nat) : List Plan := match r with
  | 0 => [.s (.q 0), .s (.q 1), .s (.q 2), .s (.q 3), .s (.q 4), .s (.q 5), .s (.q 6), .s (.q 7), .s (.q 8), .s (.q 9), .s (.q 10), .s (.q 11), .s (.q 12), .s (.q 13), .s (.q 14), .s (.q 15), .s (.l 16 [1, 12, 13, 16, 17, 18, 19]), .s (.q 17), .s (.q 18), .s (.l 19 [19])]
  | _ => []
def pl49 (r : Nat) : List Plan := match r with
  | 1 => [.s (.q 0), .s (.q 1), .s (.q 3), .s (.l 2 [0, 2, 3, 4, 5, 6]), .s (.q 4), .s (.l 5 [5, 6]), .s (.q 6)]
  | _ => []
def pl50 (r : Nat) : List Plan := match r with
  | 1 => [.s (.q 0), .s (.q 1), .s (.q 3), .s (.l 2 [0, 2, 3, 4, 5, 6]), .s (.q 4), .s (.l 5 [5, 6]), .s (.q 6)]
  | _ => []
def pl54 (r : Nat) : List Plan := match r with
  | 9 => [.s (.q 0), .s (.q 1), .s (.q 2), .s (.q 3), .s (.q 4), .s (.q 5), .s (.q 6), .s (.q 7), .s (.q 8), .s (.q 9), .s (.q 10), .s (.q 11), .s (.q 12), .s (.q 13), .s (.q 14), .s (.q 15), .s (.q 16), .s (.q 17), .s (.q 18), .s (.q 19)]
  | 18 => [.s (.q 0), .s (.q 1), .s (.q 2), .s (.q 3), .s (.q 4), .s (.q 5), .s (.q 6), .s (.q 7), .s (.q 8), .s (.q 9), .s (.q 10), .s (.q 11), .s (.q 12), .s (.q 13), .s (.q 14), .s (.q 15), .s (.q 16), .s (.q 17), .s (.q 18), .s (.q 19)]
  | _ => []
def pl55 (r : Nat) : List Plan := match r with
  | 9 => [.s (.q 0), .s (.q 1), .s (.q 2), .s (.q 3), .s (.q 4), .s (.q 5), .s (.q 6), .s (.q 7), .s (.q 8), .s (.q 9), .s (.q 10), .s (.q 11), .s (.q 12), .s (.q 13), .s (.q 14), .s (.q 15), .s (.q 16), .s (.q 17), .s (.q 18), .s (.q 19)]
  | _ => []
def pl66 (r : Nat) : List Plan := match r with
  | 7 => [.s (.q 0), .s (.q 1), .s (.q 2), .s (.q 3), .s (.q 4), .s (.q 5), .s (.q 6), .s (.q 7), .s (.q 8), .s (.q 9), .s (.q 10), .s (.q 11), .s (.l 12 [3, 4, 5, 9, 10, 12, 13, 14]), .s (.q 13), .s (.l 14 [14])]
  | 8 => [.s (.q 0), .s (.q 1), .s (.q 2), .s (.q 3), .s (.q 4), .s (.q 5), .s (.q 6), .s (.q 7), .s (.q 8), .s (.q 9), .s (.q 10), .s (.q 11), .s (.l 12 [3, 4, 5, 9, 10, 12, 13, 14]), .s (.q 13), .s (.l 14 [14])]
  | 9 => [.s (.q 0), .s (.q 1), .s (.q 2), .s (.q 3), .s (.q 4), .s (.q 5), .s (.q 6), .s (.q 7), .s (.q 8), .s (.q 9), .s (.q 10), .s (.q 11), .s (.l 12 [3, 4, 5, 9, 10, 12, 13, 14]), .s (.q 13), .s (.l 14 [14])]
  | 10 => [.s (.q 0), .s (.q 1), .s (.q 2), .s (.q 3), .s (.q 4), .s (.q 5), .s (.q 6), .s (.q 7), .s (.q 8), .s (.q 9), .s (.q 10), .s (.q 11), .s (.l 12 [3, 4, 5, 9, 10, 12, 13, 14]), .s (.q 13), .s (.l 14 [14])]
  | 17 => [.s (.q 0), .s (.q 1), .s (.q 2), .s (.q 3), .s (.q 4), .s (.q 5), .s (.q 6), .s (.q 7), .s (.q 8), .s (.q 9), .s (.q 10), .s (.q 11), .s (.l 12 [3, 4, 5, 9, 10, 12, 13, 14]), .s (.q 13), .s (.l 14 [14])]
  | 18 => [.s (.q 0), .s (.q 1), .s (.q 2), .s (.q 3), .s (.q 4), .s (.q 5), .s (.q 6), .s (.q 7), .s (.q 8), .s (.q 9), .s (.q 10), .s (.q 11), .s (.l 12 [3, 4, 5, 9, 10, 12, 13, 14]), .s (.q 13), .s (.l 14 [14])]
  | 23 => [.s (.q 0), .s (.q 1), .s (.q 2), .s (.q 3), .s (.q 4), .s (.q 5), .s (.q 6), .s (.q 7), .s (.q 8), .s (.q 9), .s (.q 10), .s (.q 11), .s (.l 12 [3, 4, 5, 9, 10, 12, 13, 14]), .s (.q 13), .s (.l 14 [14])]
  | _ => []
def plF (f : FuncId) : Nat → List Plan := match f with
  | 4 => pl4
  | 5 => pl5
  | 10 => pl10
  | 12 => pl12
  | 22 => pl22
  | 23 => pl23
  | 35 => pl35
  | 49 => pl49
  | 50 => pl50
  | 54 => pl54
  | 55 => pl55
  | 66 => pl66
  | _ => fun _ => []

def glob : Gl := ⟨plF, fun _ => [], false⟩
/-- The same, with rows as lists. -/
def globL : Gl := ⟨plF, fun _ => [], true⟩
end Go.Proofs.YtjljgldgkkfckaaDoor.M
