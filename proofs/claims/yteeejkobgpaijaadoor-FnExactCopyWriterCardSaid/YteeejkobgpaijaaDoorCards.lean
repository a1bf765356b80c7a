/-
  DERIVED. GIVEN WITH THE SEED: THE CARDS: each row of YteeejkobgpaijaaDoorRows.lean that lists a variable, with what it lists TIED to the program's text (the seventh form; the later family's looks); each row that meets fmt, with fmt's text TOLD by the authors' own Lean function (tested against real Go, not proved from fmt's source: count such statements apart). THE CARD IS WHAT COUNTS. Prove the row's statement (the work); the ties are given (YteeejkobgpaijaaDoorTie.lean); close each card by the builder's one call (the guide's Derived/Test/ToyasCard.lean, 'card_holds'). Laid BY PROGRAM, IN A SANDBOX (cutbox-door.mjs). By AI agents, Wed Nov 11 2026. No macro, syntax, notation, axiom, sorry.
-/
import Derived.Test.YteeejkobgpaijaaDoorRows
import GoSem.ClaimSeven
namespace Go.Proofs.YteeejkobgpaijaaDoor
namespace Rows

/-- THE TIED CARD OF 'laws.FnExactValidWriter'. -/
def fnExactValidWriterCard : Claim7 := { stood := { row := fnExactValidWriterRow, standIns := [], harness := (true, "05856c0b78db4cf3ba578d0408429c685d2843406aaf0af27429e6a406a3912f"), looks := false }, kinds := [], alts := [], laidByText := true, laidKinds := [.data, .pinned], laidTests := true, laidLooks := .later }
def FnExactValidWriterCardSaid : Prop := Claim7.holds Tryd.pinned (.plain (OpenSpec.ofChange fnExactValidWriterSpec)) fnExactValidWriterCard

/-- THE TIED CARD OF 'laws.FnExactCopyWriter'. -/
def fnExactCopyWriterCard : Claim7 := { stood := { row := fnExactCopyWriterRow, standIns := [], harness := (true, "05856c0b78db4cf3ba578d0408429c685d2843406aaf0af27429e6a406a3912f"), looks := false }, kinds := [], alts := [], laidByText := true, laidKinds := [.data, .pinned], laidTests := true, laidLooks := .later }
def FnExactCopyWriterCardSaid : Prop := Claim7.holds Tryd.pinned (.plain (OpenSpec.ofChange fnExactCopyWriterSpec)) fnExactCopyWriterCard

/-- THE SECOND FORM's CARD OF 'laws.FnExactValidWriter'. -/
def fnExactValidWriterUptoCard : Claim7 := { stood := { row := fnExactValidWriterUptoRow, standIns := [], harness := (true, "05856c0b78db4cf3ba578d0408429c685d2843406aaf0af27429e6a406a3912f"), looks := false }, kinds := [], alts := [], laidByText := true, laidKinds := [.data, .pinned], laidTests := true, laidLooks := .later }
def FnExactValidWriterUptoCardSaid : Prop := Claim7.holds Tryd.pinned (.plain (OpenSpec.upto fnExactValidWriterSpec)) fnExactValidWriterUptoCard

/-- THE SECOND FORM's CARD OF 'laws.FnExactCopyWriter'. -/
def fnExactCopyWriterUptoCard : Claim7 := { stood := { row := fnExactCopyWriterUptoRow, standIns := [], harness := (true, "05856c0b78db4cf3ba578d0408429c685d2843406aaf0af27429e6a406a3912f"), looks := false }, kinds := [], alts := [], laidByText := true, laidKinds := [.data, .pinned], laidTests := true, laidLooks := .later }
def FnExactCopyWriterUptoCardSaid : Prop := Claim7.holds Tryd.pinned (.plain (OpenSpec.upto fnExactCopyWriterSpec)) fnExactCopyWriterUptoCard
end Rows
end Go.Proofs.YteeejkobgpaijaaDoor
