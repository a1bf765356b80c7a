/-
  DERIVED. GIVEN WITH THE SEED: THE CARDS: each row of YtnkhgfdlehhjmaaDoorRows.lean that lists a variable, with what it lists TIED to the program's text (the seventh form; the later family's looks); each row that meets fmt, with fmt's text TOLD by the authors' own Lean function (tested against real Go, not proved from fmt's source: count such statements apart). THE CARD IS WHAT COUNTS. Prove the row's statement (the work); the ties are given (YtnkhgfdlehhjmaaDoorTie.lean); close each card by the builder's one call (the guide's Derived/Test/ToyasCard.lean, 'card_holds'). Laid BY PROGRAM, IN A SANDBOX (cutbox-door.mjs). By AI agents, Wed Nov 11 2026. No macro, syntax, notation, axiom, sorry.
-/
import Derived.Test.YtnkhgfdlehhjmaaDoorRows
import GoSem.ClaimSeven
namespace Go.Proofs.YtnkhgfdlehhjmaaDoor
namespace Rows

/-- THE TIED CARD OF 'laws.FnExactWriterText'. -/
def fnExactWriterTextCard : Claim7 := { stood := { row := fnExactWriterTextRow, standIns := [], harness := (true, "10e05088f956f3f3b387bac55fa9ed1ba2e0282d2bf4eea96d60321bff1a897f"), looks := false }, kinds := [], alts := [], laidByText := true, laidKinds := [.data, .data, .data, .data, .pinned], laidTests := true, laidLooks := .later }
def FnExactWriterTextCardSaid : Prop := Claim7.holds Tryd.pinned (.plain (OpenSpec.ofChange fnExactWriterTextSpec)) fnExactWriterTextCard

/-- THE TIED CARD OF 'laws.FnExactJoinWriters'. -/
def fnExactJoinWritersCard : Claim7 := { stood := { row := fnExactJoinWritersRow, standIns := [], harness := (true, "10e05088f956f3f3b387bac55fa9ed1ba2e0282d2bf4eea96d60321bff1a897f"), looks := false }, kinds := [], alts := [], laidByText := true, laidKinds := [.data, .pinned], laidTests := true, laidLooks := .later }
def FnExactJoinWritersCardSaid : Prop := Claim7.holds Tryd.pinned (.plain (OpenSpec.ofChange fnExactJoinWritersSpec)) fnExactJoinWritersCard

/-- THE SECOND FORM's CARD OF 'laws.FnExactWriterText'. -/
def fnExactWriterTextUptoCard : Claim7 := { stood := { row := fnExactWriterTextUptoRow, standIns := [], harness := (true, "10e05088f956f3f3b387bac55fa9ed1ba2e0282d2bf4eea96d60321bff1a897f"), looks := false }, kinds := [], alts := [], laidByText := true, laidKinds := [.data, .data, .data, .data, .pinned], laidTests := true, laidLooks := .later }
def FnExactWriterTextUptoCardSaid : Prop := Claim7.holds Tryd.pinned (.plain (OpenSpec.upto fnExactWriterTextSpec)) fnExactWriterTextUptoCard

/-- THE SECOND FORM's CARD OF 'laws.FnExactJoinWriters'. -/
def fnExactJoinWritersUptoCard : Claim7 := { stood := { row := fnExactJoinWritersUptoRow, standIns := [], harness := (true, "10e05088f956f3f3b387bac55fa9ed1ba2e0282d2bf4eea96d60321bff1a897f"), looks := false }, kinds := [], alts := [], laidByText := true, laidKinds := [.data, .pinned], laidTests := true, laidLooks := .later }
def FnExactJoinWritersUptoCardSaid : Prop := Claim7.holds Tryd.pinned (.plain (OpenSpec.upto fnExactJoinWritersSpec)) fnExactJoinWritersUptoCard
end Rows
end Go.Proofs.YtnkhgfdlehhjmaaDoor
