/-
  DERIVED. GIVEN WITH THE SEED: THE CARDS: each row of YtphcjkdjejdakaaGreatDoorRows.lean that lists a variable, with what it lists TIED to the program's text (the seventh form; the later family's looks); each row that meets fmt, with fmt's text TOLD by the authors' own Lean function (tested against real Go, not proved from fmt's source: count such statements apart). THE CARD IS WHAT COUNTS. Prove the row's statement (the work); the ties are given (YtphcjkdjejdakaaGreatDoorTie.lean); close each card by the builder's one call (the guide's Derived/Test/ToyasCard.lean, 'card_holds'). Laid BY PROGRAM, IN A SANDBOX (cutbox-door.mjs). By AI agents, Wed Nov 11 2026. No macro, syntax, notation, axiom, sorry.
-/
import Derived.Test.YtphcjkdjejdakaaGreatDoorRows
import GoSem.ClaimSeven
namespace Go.Proofs.YtphcjkdjejdakaaGreatDoor
namespace Rows

/-- THE TIED CARD OF 'columbarylaw20.MbtyGood'. -/
def mbtyGoodCard : Claim7 := { stood := { row := mbtyGoodRow, standIns := [], harness := (true, "4d32daa28eeb58127e62825fe194ed1f4af858d456ec16f9ca5e8293ad5728e8"), looks := true }, kinds := [], alts := [], laidByText := true, laidKinds := [.data, .data, .data], laidTests := true, laidLooks := .later }
def MbtyGoodCardSaid : Prop := Claim7.holds Tryz.pinned (.plain (OpenSpec.ofChange mbtyGoodSpec)) mbtyGoodCard

/-- THE TIED CARD OF 'columbarylaw20.MbtyFlaws'. -/
def mbtyFlawsCard : Claim7 := { stood := { row := mbtyFlawsRow, standIns := [], harness := (true, "4d32daa28eeb58127e62825fe194ed1f4af858d456ec16f9ca5e8293ad5728e8"), looks := true }, kinds := [], alts := [], laidByText := true, laidKinds := [.data, .data, .data], laidTests := true, laidLooks := .later }
def MbtyFlawsCardSaid : Prop := Claim7.holds Tryz.pinned (.plain (OpenSpec.ofChange mbtyFlawsSpec)) mbtyFlawsCard

/-- THE SECOND FORM's CARD OF 'columbarylaw20.MbtyGood'. -/
def mbtyGoodUptoCard : Claim7 := { stood := { row := mbtyGoodUptoRow, standIns := [], harness := (true, "4d32daa28eeb58127e62825fe194ed1f4af858d456ec16f9ca5e8293ad5728e8"), looks := true }, kinds := [], alts := [], laidByText := true, laidKinds := [.data, .data, .data], laidTests := true, laidLooks := .later }
def MbtyGoodUptoCardSaid : Prop := Claim7.holds Tryz.pinned (.plain (OpenSpec.upto mbtyGoodSpec)) mbtyGoodUptoCard

/-- THE SECOND FORM's CARD OF 'columbarylaw20.MbtyFlaws'. -/
def mbtyFlawsUptoCard : Claim7 := { stood := { row := mbtyFlawsUptoRow, standIns := [], harness := (true, "4d32daa28eeb58127e62825fe194ed1f4af858d456ec16f9ca5e8293ad5728e8"), looks := true }, kinds := [], alts := [], laidByText := true, laidKinds := [.data, .data, .data], laidTests := true, laidLooks := .later }
def MbtyFlawsUptoCardSaid : Prop := Claim7.holds Tryz.pinned (.plain (OpenSpec.upto mbtyFlawsSpec)) mbtyFlawsUptoCard
end Rows
end Go.Proofs.YtphcjkdjejdakaaGreatDoor
