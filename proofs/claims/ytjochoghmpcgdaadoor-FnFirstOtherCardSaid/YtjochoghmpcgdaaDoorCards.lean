/-
  DERIVED. GIVEN WITH THE SEED: THE CARDS: each row of YtjochoghmpcgdaaDoorRows.lean that lists a variable, with what it lists TIED to the program's text (the seventh form; the later family's looks); each row that meets fmt, with fmt's text TOLD by the authors' own Lean function (tested against real Go, not proved from fmt's source: count such statements apart). THE CARD IS WHAT COUNTS. Prove the row's statement (the work); the ties are given (YtjochoghmpcgdaaDoorTie.lean); close each card by the builder's one call (the guide's Derived/Test/ToyasCard.lean, 'card_holds'). Laid BY PROGRAM, IN A SANDBOX (cutbox-door.mjs). By AI agents, Wed Nov 11 2026. No macro, syntax, notation, axiom, sorry.
-/
import Derived.Test.YtjochoghmpcgdaaDoorRows
import GoSem.ClaimSeven
namespace Go.Proofs.YtjochoghmpcgdaaDoor
namespace Rows

/-- THE TIED CARD OF 'laws.FnFirstOther'. -/
def fnFirstOtherCard : Claim7 := { stood := { row := fnFirstOtherRow, standIns := [], harness := (true, "6cfe4bae5e23fcdd9c682f5803e0693c7568b473efce940f9bc50bc02ee7cda5"), looks := false }, kinds := [], alts := [], laidByText := true, laidKinds := [.data, .pinned], laidTests := true, laidLooks := .later }
def FnFirstOtherCardSaid : Prop := Claim7.holds Tryd.pinned (.plain (OpenSpec.ofChange fnFirstOtherSpec)) fnFirstOtherCard

/-- THE TIED CARD OF 'laws.FnExactFirstOther'. -/
def fnExactFirstOtherCard : Claim7 := { stood := { row := fnExactFirstOtherRow, standIns := [], harness := (true, "6cfe4bae5e23fcdd9c682f5803e0693c7568b473efce940f9bc50bc02ee7cda5"), looks := false }, kinds := [], alts := [], laidByText := true, laidKinds := [.data, .pinned], laidTests := true, laidLooks := .later }
def FnExactFirstOtherCardSaid : Prop := Claim7.holds Tryd.pinned (.plain (OpenSpec.ofChange fnExactFirstOtherSpec)) fnExactFirstOtherCard

/-- THE TIED CARD OF 'laws.FnExactLongestWritten'. -/
def fnExactLongestWrittenCard : Claim7 := { stood := { row := fnExactLongestWrittenRow, standIns := [], harness := (true, "6cfe4bae5e23fcdd9c682f5803e0693c7568b473efce940f9bc50bc02ee7cda5"), looks := false }, kinds := [], alts := [], laidByText := true, laidKinds := [.data, .pinned], laidTests := true, laidLooks := .later }
def FnExactLongestWrittenCardSaid : Prop := Claim7.holds Tryd.pinned (.plain (OpenSpec.ofChange fnExactLongestWrittenSpec)) fnExactLongestWrittenCard

/-- THE SECOND FORM's CARD OF 'laws.FnFirstOther'. -/
def fnFirstOtherUptoCard : Claim7 := { stood := { row := fnFirstOtherUptoRow, standIns := [], harness := (true, "6cfe4bae5e23fcdd9c682f5803e0693c7568b473efce940f9bc50bc02ee7cda5"), looks := false }, kinds := [], alts := [], laidByText := true, laidKinds := [.data, .pinned], laidTests := true, laidLooks := .later }
def FnFirstOtherUptoCardSaid : Prop := Claim7.holds Tryd.pinned (.plain (OpenSpec.upto fnFirstOtherSpec)) fnFirstOtherUptoCard

/-- THE SECOND FORM's CARD OF 'laws.FnExactFirstOther'. -/
def fnExactFirstOtherUptoCard : Claim7 := { stood := { row := fnExactFirstOtherUptoRow, standIns := [], harness := (true, "6cfe4bae5e23fcdd9c682f5803e0693c7568b473efce940f9bc50bc02ee7cda5"), looks := false }, kinds := [], alts := [], laidByText := true, laidKinds := [.data, .pinned], laidTests := true, laidLooks := .later }
def FnExactFirstOtherUptoCardSaid : Prop := Claim7.holds Tryd.pinned (.plain (OpenSpec.upto fnExactFirstOtherSpec)) fnExactFirstOtherUptoCard

/-- THE SECOND FORM's CARD OF 'laws.FnExactLongestWritten'. -/
def fnExactLongestWrittenUptoCard : Claim7 := { stood := { row := fnExactLongestWrittenUptoRow, standIns := [], harness := (true, "6cfe4bae5e23fcdd9c682f5803e0693c7568b473efce940f9bc50bc02ee7cda5"), looks := false }, kinds := [], alts := [], laidByText := true, laidKinds := [.data, .pinned], laidTests := true, laidLooks := .later }
def FnExactLongestWrittenUptoCardSaid : Prop := Claim7.holds Tryd.pinned (.plain (OpenSpec.upto fnExactLongestWrittenSpec)) fnExactLongestWrittenUptoCard
end Rows
end Go.Proofs.YtjochoghmpcgdaaDoor
