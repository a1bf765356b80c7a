/-
  DERIVED. GIVEN WITH THE SEED: THE CARDS: each row of YtfamhnogpcmbmaaGreatDoorRows.lean that lists a variable, with what it lists TIED to the program's text (the seventh form; the later family's looks); each row that meets fmt, with fmt's text TOLD by the authors' own Lean function (tested against real Go, not proved from fmt's source: count such statements apart). THE CARD IS WHAT COUNTS. Prove the row's statement (the work); the ties are given (YtfamhnogpcmbmaaGreatDoorTie.lean); close each card by the builder's one call (the guide's Derived/Test/ToyasCard.lean, 'card_holds'). Laid BY PROGRAM, IN A SANDBOX (cutbox-door.mjs). By AI agents, Wed Nov 11 2026. No macro, syntax, notation, axiom, sorry.
-/
import Derived.Test.YtfamhnogpcmbmaaGreatDoorRows
import GoSem.ClaimSeven
namespace Go.Proofs.YtfamhnogpcmbmaaGreatDoor
namespace Rows

/-- THE TIED CARD OF 'laws.FnWriterText'. -/
def fnWriterTextCard : Claim7 := { stood := { row := fnWriterTextRow, standIns := [], harness := (true, "06e2bdb8ca2e561f51b9f09a4ed14b31019841808ca3ced3c54d79ad1eb2c743"), looks := true }, kinds := [], alts := [], laidByText := true, laidKinds := [.data, .data, .data, .data, .sentinel, .sentinel, .pinned], laidTests := true, laidLooks := .later }
def FnWriterTextCardSaid : Prop := Claim7.holds Tryz.pinned (.plain (OpenSpec.ofChange fnWriterTextSpec)) fnWriterTextCard

/-- THE TIED CARD OF 'laws.FnExactReadWriter'. -/
def fnExactReadWriterCard : Claim7 := { stood := { row := fnExactReadWriterRow, standIns := [], harness := (true, "06e2bdb8ca2e561f51b9f09a4ed14b31019841808ca3ced3c54d79ad1eb2c743"), looks := true }, kinds := [], alts := [], laidByText := true, laidKinds := [.data, .data, .data, .data, .sentinel, .sentinel, .pinned], laidTests := true, laidLooks := .later }
def FnExactReadWriterCardSaid : Prop := Claim7.holds Tryz.pinned (.plain (OpenSpec.ofChange fnExactReadWriterSpec)) fnExactReadWriterCard

/-- THE SECOND FORM's CARD OF 'laws.FnWriterText'. -/
def fnWriterTextUptoCard : Claim7 := { stood := { row := fnWriterTextUptoRow, standIns := [], harness := (true, "06e2bdb8ca2e561f51b9f09a4ed14b31019841808ca3ced3c54d79ad1eb2c743"), looks := true }, kinds := [], alts := [], laidByText := true, laidKinds := [.data, .data, .data, .data, .sentinel, .sentinel, .pinned], laidTests := true, laidLooks := .later }
def FnWriterTextUptoCardSaid : Prop := Claim7.holds Tryz.pinned (.plain (OpenSpec.upto fnWriterTextSpec)) fnWriterTextUptoCard

/-- THE SECOND FORM's CARD OF 'laws.FnExactReadWriter'. -/
def fnExactReadWriterUptoCard : Claim7 := { stood := { row := fnExactReadWriterUptoRow, standIns := [], harness := (true, "06e2bdb8ca2e561f51b9f09a4ed14b31019841808ca3ced3c54d79ad1eb2c743"), looks := true }, kinds := [], alts := [], laidByText := true, laidKinds := [.data, .data, .data, .data, .sentinel, .sentinel, .pinned], laidTests := true, laidLooks := .later }
def FnExactReadWriterUptoCardSaid : Prop := Claim7.holds Tryz.pinned (.plain (OpenSpec.upto fnExactReadWriterSpec)) fnExactReadWriterUptoCard
end Rows
end Go.Proofs.YtfamhnogpcmbmaaGreatDoor
