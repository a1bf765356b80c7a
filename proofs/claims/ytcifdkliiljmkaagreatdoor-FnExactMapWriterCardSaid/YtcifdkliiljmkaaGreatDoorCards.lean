/-
  DERIVED. GIVEN WITH THE SEED: THE CARDS: each row of YtcifdkliiljmkaaGreatDoorRows.lean that lists a variable, with what it lists TIED to the program's text (the seventh form; the later family's looks); each row that meets fmt, with fmt's text TOLD by the authors' own Lean function (tested against real Go, not proved from fmt's source: count such statements apart). THE CARD IS WHAT COUNTS. Prove the row's statement (the work); the ties are given (YtcifdkliiljmkaaGreatDoorTie.lean); close each card by the builder's one call (the guide's Derived/Test/ToyasCard.lean, 'card_holds'). Laid BY PROGRAM, IN A SANDBOX (cutbox-door.mjs). By AI agents, Wed Nov 11 2026. No macro, syntax, notation, axiom, sorry.
-/
import Derived.Test.YtcifdkliiljmkaaGreatDoorRows
import GoSem.ClaimSeven
namespace Go.Proofs.YtcifdkliiljmkaaGreatDoor
namespace Rows

/-- THE TIED CARD OF 'laws.FnExactPreimageTurner'. -/
def fnExactPreimageTurnerCard : Claim7 := { stood := { row := fnExactPreimageTurnerRow, standIns := [], harness := (true, "f1883ad249c435673c59c51f2c1697aa2869adae08dcb6dfc27a214c43d4ce24"), looks := true }, kinds := [], alts := [], laidByText := true, laidKinds := [.data, .pinned], laidTests := true, laidLooks := .later }
def FnExactPreimageTurnerCardSaid : Prop := Claim7.holds Tryz.pinned (.plain (OpenSpec.ofChange fnExactPreimageTurnerSpec)) fnExactPreimageTurnerCard

/-- THE TIED CARD OF 'laws.FnExactMapWriter'. -/
def fnExactMapWriterCard : Claim7 := { stood := { row := fnExactMapWriterRow, standIns := [], harness := (true, "f1883ad249c435673c59c51f2c1697aa2869adae08dcb6dfc27a214c43d4ce24"), looks := true }, kinds := [], alts := [], laidByText := true, laidKinds := [.data, .pinned], laidTests := true, laidLooks := .later }
def FnExactMapWriterCardSaid : Prop := Claim7.holds Tryz.pinned (.plain (OpenSpec.ofChange fnExactMapWriterSpec)) fnExactMapWriterCard

/-- THE SECOND FORM's CARD OF 'laws.FnExactPreimageTurner'. -/
def fnExactPreimageTurnerUptoCard : Claim7 := { stood := { row := fnExactPreimageTurnerUptoRow, standIns := [], harness := (true, "f1883ad249c435673c59c51f2c1697aa2869adae08dcb6dfc27a214c43d4ce24"), looks := true }, kinds := [], alts := [], laidByText := true, laidKinds := [.data, .pinned], laidTests := true, laidLooks := .later }
def FnExactPreimageTurnerUptoCardSaid : Prop := Claim7.holds Tryz.pinned (.plain (OpenSpec.upto fnExactPreimageTurnerSpec)) fnExactPreimageTurnerUptoCard

/-- THE SECOND FORM's CARD OF 'laws.FnExactMapWriter'. -/
def fnExactMapWriterUptoCard : Claim7 := { stood := { row := fnExactMapWriterUptoRow, standIns := [], harness := (true, "f1883ad249c435673c59c51f2c1697aa2869adae08dcb6dfc27a214c43d4ce24"), looks := true }, kinds := [], alts := [], laidByText := true, laidKinds := [.data, .pinned], laidTests := true, laidLooks := .later }
def FnExactMapWriterUptoCardSaid : Prop := Claim7.holds Tryz.pinned (.plain (OpenSpec.upto fnExactMapWriterSpec)) fnExactMapWriterUptoCard
end Rows
end Go.Proofs.YtcifdkliiljmkaaGreatDoor
