/-
  DERIVED. GIVEN WITH THE SEED: THE CARDS: each row of YtodoghidckelcaaGreatDoorRows.lean that lists a variable, with what it lists TIED to the program's text (the seventh form; the later family's looks); each row that meets fmt, with fmt's text TOLD by the authors' own Lean function (tested against real Go, not proved from fmt's source: count such statements apart). THE CARD IS WHAT COUNTS. Prove the row's statement (the work); the ties are given (YtodoghidckelcaaGreatDoorTie.lean); close each card by the builder's one call (the guide's Derived/Test/ToyasCard.lean, 'card_holds'). Laid BY PROGRAM, IN A SANDBOX (cutbox-door.mjs). By AI agents, Wed Nov 11 2026. No macro, syntax, notation, axiom, sorry.
-/
import Derived.Test.YtodoghidckelcaaGreatDoorRows
import GoSem.ClaimSeven
namespace Go.Proofs.YtodoghidckelcaaGreatDoor
namespace Rows

/-- THE TIED CARD OF 'laws.FnExactReadWriter'. -/
def fnExactReadWriterCard : Claim7 := { stood := { row := fnExactReadWriterRow, standIns := [], harness := (true, "f22760ae10f7cff156ed37d00bcf94ed4ebb01ae4bc7698c03565033f257a637"), looks := true }, kinds := [], alts := [], laidByText := true, laidKinds := [.data, .data, .data, .data, .sentinel, .sentinel, .pinned], laidTests := true, laidLooks := .later }
def FnExactReadWriterCardSaid : Prop := Claim7.holds Tryz.pinned (.plain (OpenSpec.ofChange fnExactReadWriterSpec)) fnExactReadWriterCard

/-- THE SECOND FORM's CARD OF 'laws.FnExactReadWriter'. -/
def fnExactReadWriterUptoCard : Claim7 := { stood := { row := fnExactReadWriterUptoRow, standIns := [], harness := (true, "f22760ae10f7cff156ed37d00bcf94ed4ebb01ae4bc7698c03565033f257a637"), looks := true }, kinds := [], alts := [], laidByText := true, laidKinds := [.data, .data, .data, .data, .sentinel, .sentinel, .pinned], laidTests := true, laidLooks := .later }
def FnExactReadWriterUptoCardSaid : Prop := Claim7.holds Tryz.pinned (.plain (OpenSpec.upto fnExactReadWriterSpec)) fnExactReadWriterUptoCard
end Rows
end Go.Proofs.YtodoghidckelcaaGreatDoor
