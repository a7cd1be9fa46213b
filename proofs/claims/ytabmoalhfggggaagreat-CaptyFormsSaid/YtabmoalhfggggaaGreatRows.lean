/-
  No cell of these rows narrows 'for every input' (looked for: loops, veiled, ifaces, maps, wideKeys, modest, calm, conditions, laid).
  DERIVED. THE GIVEN ROWS OF THIS SEAT. 4 by the template 'for every input the law returns true; each argument reads behind the call as it read before'; 0 by the template 'total and deterministic' (their statements: YtabmoalhfggggaaGreatTotals.lean).
  GIVEN WITH THE SEED: the statements are not yours to turn. If you find one false, say at which input.
  Laid BY PROGRAM, IN A SANDBOX (cutbox-rows.mjs): the forced cells as the released guide's own fill.sh prints them over the translation 99320677535ac23e… (all of the seat's roots in one cut). By AI agents, Wed Nov 11 2026. No macro, syntax, notation, axiom, sorry.
-/
import Derived.Test.YtabmoalhfggggaaGreatChecked
import GoSem.Claim
import GoSem.ClaimJoined
import GoSem.ClaimMapViews
import Derived.JoinedTies
import Derived.KernelRfl
namespace Go.Proofs.YtabmoalhfggggaaGreat
/- THE CELL 'sum', in the pinned program and in every row, IS THE sha256 OF THE DUMP (.gsa) THAT YtabmoalhfggggaaGreatProg.lean LOADS. Nothing in Lean hashes anything: it is a label: what it is worth is what the hold of that sum in a sandbox is worth. -/
noncomputable def Tryz.pinned : Pinned := { name := "ytabmoalhfggggaagreat", sum := "99320677535ac23e4ba9b3d7171397491a700b66572558fc66b7e9cec502ec55", checked := Tryz.checked }
namespace Rows
def none {H : Type} : Left H := { results := [], args := [] }

/-- 'columbarylaw18.CaptyTells': WHATEVER THE INPUT: true; the input reads as it did. -/
def captyTellsSpec : ChangeSpec := { name := "captyTells", fn := fun _ => fun
  | [d1, d2] => { results := [.lit (.bool true)], args := [d1, d2] }
  | _ => none }
def captyTellsRow : OpenClaim := { program := "ytabmoalhfggggaagreat", sum := "99320677535ac23e4ba9b3d7171397491a700b66572558fc66b7e9cec502ec55", func := "columbary/columbarylaw18.CaptyTells", spec := "captyTells", unfollowed := true, recurses := true, apart := false }
def CaptyTellsSaid : Prop := captyTellsRow.holds Tryz.pinned (OpenSpec.ofChange captyTellsSpec)

/-- ITS FALSE NEIGHBOUR: 'it returns false'. Refute it at one input. -/
def captyTellsWrong : ChangeSpec := { name := "captyTells", fn := fun _ => fun
  | [d1, d2] => { results := [.lit (.bool false)], args := [d1, d2] }
  | _ => none }
def CaptyTellsWrongFalsely : Prop := captyTellsRow.holds Tryz.pinned (OpenSpec.ofChange captyTellsWrong)

/-- 'columbarylaw18.CaptyBodies': WHATEVER THE INPUT: true; the input reads as it did. -/
def captyBodiesSpec : ChangeSpec := { name := "captyBodies", fn := fun _ => fun
  | [d1, d2] => { results := [.lit (.bool true)], args := [d1, d2] }
  | _ => none }
def captyBodiesRow : OpenClaim := { program := "ytabmoalhfggggaagreat", sum := "99320677535ac23e4ba9b3d7171397491a700b66572558fc66b7e9cec502ec55", func := "columbary/columbarylaw18.CaptyBodies", spec := "captyBodies", unfollowed := true, recurses := true, apart := false }
def CaptyBodiesSaid : Prop := captyBodiesRow.holds Tryz.pinned (OpenSpec.ofChange captyBodiesSpec)

/-- ITS FALSE NEIGHBOUR: 'it returns false'. Refute it at one input. -/
def captyBodiesWrong : ChangeSpec := { name := "captyBodies", fn := fun _ => fun
  | [d1, d2] => { results := [.lit (.bool false)], args := [d1, d2] }
  | _ => none }
def CaptyBodiesWrongFalsely : Prop := captyBodiesRow.holds Tryz.pinned (OpenSpec.ofChange captyBodiesWrong)

/-- 'columbarylaw18.CaptyForms': WHATEVER THE INPUT: true; the input reads as it did. -/
def captyFormsSpec : ChangeSpec := { name := "captyForms", fn := fun _ => fun
  | [d] => { results := [.lit (.bool true)], args := [d] }
  | _ => none }
def captyFormsRow : OpenClaim := { program := "ytabmoalhfggggaagreat", sum := "99320677535ac23e4ba9b3d7171397491a700b66572558fc66b7e9cec502ec55", func := "columbary/columbarylaw18.CaptyForms", spec := "captyForms", unfollowed := true, recurses := true, apart := false }
def CaptyFormsSaid : Prop := captyFormsRow.holds Tryz.pinned (OpenSpec.ofChange captyFormsSpec)

/-- ITS FALSE NEIGHBOUR: 'it returns false'. Refute it at one input. -/
def captyFormsWrong : ChangeSpec := { name := "captyForms", fn := fun _ => fun
  | [d] => { results := [.lit (.bool false)], args := [d] }
  | _ => none }
def CaptyFormsWrongFalsely : Prop := captyFormsRow.holds Tryz.pinned (OpenSpec.ofChange captyFormsWrong)

/-- 'columbarylaw18.CaptySends': WHATEVER THE INPUT: true; the input reads as it did. -/
def captySendsSpec : ChangeSpec := { name := "captySends", fn := fun _ => fun
  | [d1, d2] => { results := [.lit (.bool true)], args := [d1, d2] }
  | _ => none }
def captySendsRow : OpenClaim := { program := "ytabmoalhfggggaagreat", sum := "99320677535ac23e4ba9b3d7171397491a700b66572558fc66b7e9cec502ec55", func := "columbary/columbarylaw18.CaptySends", spec := "captySends", unfollowed := true, recurses := true, apart := false }
def CaptySendsSaid : Prop := captySendsRow.holds Tryz.pinned (OpenSpec.ofChange captySendsSpec)

/-- ITS FALSE NEIGHBOUR: 'it returns false'. Refute it at one input. -/
def captySendsWrong : ChangeSpec := { name := "captySends", fn := fun _ => fun
  | [d1, d2] => { results := [.lit (.bool false)], args := [d1, d2] }
  | _ => none }
def CaptySendsWrongFalsely : Prop := captySendsRow.holds Tryz.pinned (OpenSpec.ofChange captySendsWrong)

/- THE SECOND FORM. 'bulk': how many values and letters a reading holds, each counted each time it is reached (what is shared counts as often as it is met; a slice's spare places count too). A statement '..UptoSaid' is the law's where the arguments, and the package variables that the reading takes, are together of bulk at most 1048576: NARROWER than '..Said'. Prove '..Said' where nothing that the law and all that it calls make is longer than what came in: it says more and counts as full. Else prove '..UptoSaid'. A law counts once. -/
mutual
def uptoBulk {H : Type} : DataW H → Nat
  | .lit (.string bytes) => bytes.length + 1
  | .lit _ => 1
  | .nil => 1
  | .ptr d => uptoBulk d + 1
  | .slice elems spare => uptoBulkAll elems + uptoBulkAll spare + 1
  | .agg parts => uptoBulkAll parts + 1
  | .iface _ d => uptoBulk d + 1
  | .map entries => uptoBulkEntries entries + 1
  | .held _ => 1
def uptoBulkAll {H : Type} : List (DataW H) → Nat
  | [] => 0
  | d :: r => uptoBulk d + uptoBulkAll r
def uptoBulkEntries {H : Type} : List (Lit × DataW H) → Nat
  | [] => 0
  | x :: r => uptoBulkEntry x + uptoBulkEntries r
def uptoBulkEntry {H : Type} : Lit × DataW H → Nat
  | (.string bytes, d) => bytes.length + uptoBulk d + 1
  | (_, d) => uptoBulk d + 1
 end
def uptoSmall : (H : Type) → List (DataW H) → Bool := fun _ ds => decide (uptoBulkAll ds ≤ 1048576)
def OpenSpec.upto (s : _root_.Go.ChangeSpec) : _root_.Go.OpenSpec := { _root_.Go.OpenSpec.ofChange s with cond := some uptoSmall }

/-- 'columbarylaw18.CaptyTells', WHERE WHAT IT READS IS OF BULK AT MOST 1048576: true; the input reads as it did. -/
def captyTellsUptoRow : OpenClaim := { program := "ytabmoalhfggggaagreat", sum := "99320677535ac23e4ba9b3d7171397491a700b66572558fc66b7e9cec502ec55", func := "columbary/columbarylaw18.CaptyTells", spec := "captyTells", unfollowed := true, recurses := true, apart := false, narrowed := true }
def CaptyTellsUptoSaid : Prop := captyTellsUptoRow.holds Tryz.pinned (OpenSpec.upto captyTellsSpec)

/-- 'columbarylaw18.CaptyBodies', WHERE WHAT IT READS IS OF BULK AT MOST 1048576: true; the input reads as it did. -/
def captyBodiesUptoRow : OpenClaim := { program := "ytabmoalhfggggaagreat", sum := "99320677535ac23e4ba9b3d7171397491a700b66572558fc66b7e9cec502ec55", func := "columbary/columbarylaw18.CaptyBodies", spec := "captyBodies", unfollowed := true, recurses := true, apart := false, narrowed := true }
def CaptyBodiesUptoSaid : Prop := captyBodiesUptoRow.holds Tryz.pinned (OpenSpec.upto captyBodiesSpec)

/-- 'columbarylaw18.CaptyForms', WHERE WHAT IT READS IS OF BULK AT MOST 1048576: true; the input reads as it did. -/
def captyFormsUptoRow : OpenClaim := { program := "ytabmoalhfggggaagreat", sum := "99320677535ac23e4ba9b3d7171397491a700b66572558fc66b7e9cec502ec55", func := "columbary/columbarylaw18.CaptyForms", spec := "captyForms", unfollowed := true, recurses := true, apart := false, narrowed := true }
def CaptyFormsUptoSaid : Prop := captyFormsUptoRow.holds Tryz.pinned (OpenSpec.upto captyFormsSpec)

/-- 'columbarylaw18.CaptySends', WHERE WHAT IT READS IS OF BULK AT MOST 1048576: true; the input reads as it did. -/
def captySendsUptoRow : OpenClaim := { program := "ytabmoalhfggggaagreat", sum := "99320677535ac23e4ba9b3d7171397491a700b66572558fc66b7e9cec502ec55", func := "columbary/columbarylaw18.CaptySends", spec := "captySends", unfollowed := true, recurses := true, apart := false, narrowed := true }
def CaptySendsUptoSaid : Prop := captySendsUptoRow.holds Tryz.pinned (OpenSpec.upto captySendsSpec)

end Rows
end Go.Proofs.YtabmoalhfggggaaGreat
