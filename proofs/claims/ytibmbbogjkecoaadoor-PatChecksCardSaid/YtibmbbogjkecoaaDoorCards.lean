/-
  DERIVED. GIVEN WITH THE SEED: THE CARDS: each row of YtibmbbogjkecoaaDoorRows.lean that lists a variable, with what it lists TIED to the program's text (the seventh form; the later family's looks); each row that meets fmt, with fmt's text TOLD by the authors' own Lean function (tested against real Go, not proved from fmt's source: count such statements apart). THE CARD IS WHAT COUNTS. Prove the row's statement (the work); the ties are given (YtibmbbogjkecoaaDoorTie.lean); close each card by the builder's one call (the guide's Derived/Test/ToyasCard.lean, 'card_holds'). Laid BY PROGRAM, IN A SANDBOX (cutbox-door.mjs). By AI agents, Wed Nov 11 2026. No macro, syntax, notation, axiom, sorry.
-/
import Derived.Test.YtibmbbogjkecoaaDoorRows
import GoSem.ClaimSeven
namespace Go.Proofs.YtibmbbogjkecoaaDoor
namespace Rows

/-- THE TIED CARD OF 'columbarylaw05.PatMany'. -/
def patManyCard : Claim7 := { stood := { row := patManyRow, standIns := [], harness := (true, "53be4917f9143fd4801e71692231363178774f8052e7e8fbf8366722509bbc49"), looks := true }, kinds := [], alts := [], laidByText := true, laidKinds := [.data, .data, .data, .sentinel, .sentinel, .listed, .data], laidTests := true, laidLooks := .later }
def PatManyCardSaid : Prop := Claim7.holds Tryd.pinned (.plain (OpenSpec.ofChange patManySpec)) patManyCard

/-- THE TIED CARD OF 'columbarylaw05.PatChecks'. -/
def patChecksCard : Claim7 := { stood := { row := patChecksRow, standIns := [], harness := (true, "53be4917f9143fd4801e71692231363178774f8052e7e8fbf8366722509bbc49"), looks := true }, kinds := [], alts := [], laidByText := true, laidKinds := [.data, .data, .data, .sentinel, .sentinel, .listed, .data], laidTests := true, laidLooks := .later }
def PatChecksCardSaid : Prop := Claim7.holds Tryd.pinned (.plain (OpenSpec.ofChange patChecksSpec)) patChecksCard

/-- THE TIED CARD OF 'columbarylaw05.PatForms'. -/
def patFormsCard : Claim7 := { stood := { row := patFormsRow, standIns := [], harness := (true, "53be4917f9143fd4801e71692231363178774f8052e7e8fbf8366722509bbc49"), looks := true }, kinds := [], alts := [], laidByText := true, laidKinds := [.data, .data, .data, .sentinel, .sentinel, .listed, .data], laidTests := true, laidLooks := .later }
def PatFormsCardSaid : Prop := Claim7.holds Tryd.pinned (.plain (OpenSpec.ofChange patFormsSpec)) patFormsCard

/-- THE SECOND FORM's CARD OF 'columbarylaw05.PatMany'. -/
def patManyUptoCard : Claim7 := { stood := { row := patManyUptoRow, standIns := [], harness := (true, "53be4917f9143fd4801e71692231363178774f8052e7e8fbf8366722509bbc49"), looks := true }, kinds := [], alts := [], laidByText := true, laidKinds := [.data, .data, .data, .sentinel, .sentinel, .listed, .data], laidTests := true, laidLooks := .later }
def PatManyUptoCardSaid : Prop := Claim7.holds Tryd.pinned (.plain (OpenSpec.upto patManySpec)) patManyUptoCard

/-- THE SECOND FORM's CARD OF 'columbarylaw05.PatChecks'. -/
def patChecksUptoCard : Claim7 := { stood := { row := patChecksUptoRow, standIns := [], harness := (true, "53be4917f9143fd4801e71692231363178774f8052e7e8fbf8366722509bbc49"), looks := true }, kinds := [], alts := [], laidByText := true, laidKinds := [.data, .data, .data, .sentinel, .sentinel, .listed, .data], laidTests := true, laidLooks := .later }
def PatChecksUptoCardSaid : Prop := Claim7.holds Tryd.pinned (.plain (OpenSpec.upto patChecksSpec)) patChecksUptoCard

/-- THE SECOND FORM's CARD OF 'columbarylaw05.PatForms'. -/
def patFormsUptoCard : Claim7 := { stood := { row := patFormsUptoRow, standIns := [], harness := (true, "53be4917f9143fd4801e71692231363178774f8052e7e8fbf8366722509bbc49"), looks := true }, kinds := [], alts := [], laidByText := true, laidKinds := [.data, .data, .data, .sentinel, .sentinel, .listed, .data], laidTests := true, laidLooks := .later }
def PatFormsUptoCardSaid : Prop := Claim7.holds Tryd.pinned (.plain (OpenSpec.upto patFormsSpec)) patFormsUptoCard
end Rows
end Go.Proofs.YtibmbbogjkecoaaDoor
