/-
  No cell of these rows narrows 'for every input' (looked for: loops, veiled, ifaces, maps, wideKeys, modest, calm, conditions, laid).
  DERIVED. THE GIVEN ROWS OF THIS SEAT. 3 by the template 'for every input the law returns true; each argument reads behind the call as it read before'; 0 by the template 'total and deterministic' (their statements: YtipandcflcidlaaTotals.lean).
  GIVEN WITH THE SEED: the statements are not yours to turn. If you find one false, say at which input.
  Laid BY PROGRAM, IN A SANDBOX (cutbox-rows.mjs): the forced cells as the released guide's own fill.sh prints them over the translation 5309829c430a8792… (all of the seat's roots in one cut). By AI agents, Wed Nov 11 2026. No macro, syntax, notation, axiom, sorry.
-/
import Derived.Test.YtipandcflcidlaaChecked
import GoSem.Claim
import GoSem.ClaimJoined
import GoSem.ClaimMapViews
import Derived.JoinedTies
import Derived.KernelRfl
namespace Go.Proofs.Ytipandcflcidlaa
/- THE CELL 'sum', in the pinned program and in every row, IS THE sha256 OF THE DUMP (.gsa) THAT YtipandcflcidlaaProg.lean LOADS. Nothing in Lean hashes anything: it is a label: what it is worth is what the hold of that sum in a sandbox is worth. -/
noncomputable def Try.pinned : Pinned := { name := "ytipandcflcidlaa", sum := "5309829c430a8792d8f9e6e145e8b714327b8d6ad6b800034c4c3ab59dea8356", checked := Try.checked }
namespace Rows
def none {H : Type} : Left H := { results := [], args := [] }

/-- 'laws.FnExactReaderOfShape': WHATEVER THE INPUT: true; the input reads as it did. -/
def fnExactReaderOfShapeSpec : ChangeSpec := { name := "fnExactReaderOfShape", fn := fun _ => fun
  | [d1, d2] => { results := [.lit (.bool true)], args := [d1, d2] }
  | _ => none }
def fnExactReaderOfShapeRow : OpenClaim := { program := "ytipandcflcidlaa", sum := "5309829c430a8792d8f9e6e145e8b714327b8d6ad6b800034c4c3ab59dea8356", func := "loop.example/g01134/laws.FnExactReaderOfShape", spec := "fnExactReaderOfShape", apart := false }
def FnExactReaderOfShapeSaid : Prop := fnExactReaderOfShapeRow.holds Try.pinned (OpenSpec.ofChange fnExactReaderOfShapeSpec)

/-- ITS FALSE NEIGHBOUR: 'it returns false'. Refute it at one input. -/
def fnExactReaderOfShapeWrong : ChangeSpec := { name := "fnExactReaderOfShape", fn := fun _ => fun
  | [d1, d2] => { results := [.lit (.bool false)], args := [d1, d2] }
  | _ => none }
def FnExactReaderOfShapeWrongFalsely : Prop := fnExactReaderOfShapeRow.holds Try.pinned (OpenSpec.ofChange fnExactReaderOfShapeWrong)

/-- 'laws.FnExactNthLastMany': WHATEVER THE INPUT: true; the input reads as it did. -/
def fnExactNthLastManySpec : ChangeSpec := { name := "fnExactNthLastMany", fn := fun _ => fun
  | [d1, d2] => { results := [.lit (.bool true)], args := [d1, d2] }
  | _ => none }
def fnExactNthLastManyRow : OpenClaim := { program := "ytipandcflcidlaa", sum := "5309829c430a8792d8f9e6e145e8b714327b8d6ad6b800034c4c3ab59dea8356", func := "loop.example/g01134/laws.FnExactNthLastMany", spec := "fnExactNthLastMany", apart := false }
def FnExactNthLastManySaid : Prop := fnExactNthLastManyRow.holds Try.pinned (OpenSpec.ofChange fnExactNthLastManySpec)

/-- ITS FALSE NEIGHBOUR: 'it returns false'. Refute it at one input. -/
def fnExactNthLastManyWrong : ChangeSpec := { name := "fnExactNthLastMany", fn := fun _ => fun
  | [d1, d2] => { results := [.lit (.bool false)], args := [d1, d2] }
  | _ => none }
def FnExactNthLastManyWrongFalsely : Prop := fnExactNthLastManyRow.holds Try.pinned (OpenSpec.ofChange fnExactNthLastManyWrong)

/-- 'laws.FnExactManyOfCycles': WHATEVER THE INPUT: true; the input reads as it did. -/
def fnExactManyOfCyclesSpec : ChangeSpec := { name := "fnExactManyOfCycles", fn := fun _ => fun
  | [d] => { results := [.lit (.bool true)], args := [d] }
  | _ => none }
def fnExactManyOfCyclesRow : OpenClaim := { program := "ytipandcflcidlaa", sum := "5309829c430a8792d8f9e6e145e8b714327b8d6ad6b800034c4c3ab59dea8356", func := "loop.example/g01134/laws.FnExactManyOfCycles", spec := "fnExactManyOfCycles", unfollowed := true, recurses := true, apart := false }
def FnExactManyOfCyclesSaid : Prop := fnExactManyOfCyclesRow.holds Try.pinned (OpenSpec.ofChange fnExactManyOfCyclesSpec)

/-- ITS FALSE NEIGHBOUR: 'it returns false'. Refute it at one input. -/
def fnExactManyOfCyclesWrong : ChangeSpec := { name := "fnExactManyOfCycles", fn := fun _ => fun
  | [d] => { results := [.lit (.bool false)], args := [d] }
  | _ => none }
def FnExactManyOfCyclesWrongFalsely : Prop := fnExactManyOfCyclesRow.holds Try.pinned (OpenSpec.ofChange fnExactManyOfCyclesWrong)

/- THE SECOND FORM. 'bulk': how many values and letters a reading holds, each counted each time it is reached (what is shared counts as often as it is met; a slice's spare places count too). A statement '..UptoSaid' is the law's where the arguments, and the package variables that the reading takes, are together of bulk at most 1048576: NARROWER than '..Said'. Prove '..Said' where nothing that the law and all that it calls make is longer than what came in: it says more and counts as full. Else prove '..UptoSaid'. A law counts once. -/
mutual
def uptoBulk {H : Type} : DataW H → Nat
  | .lit (.string bytes) => bytes.length + 1
  | .lit _ => 1
  | .nil => 1
  | .ptr d => uptoBulk d + 1
  | .slice elems spare => uptoBulkAll elems + uptoBulkAll spare + 1
  | .agg parts => uptoBulkAll parts + 1
  | .iface _ d => uptoBulk d + 1
  | .map entries => uptoBulkEntries entries + 1
  | .held _ => 1
def uptoBulkAll {H : Type} : List (DataW H) → Nat
  | [] => 0
  | d :: r => uptoBulk d + uptoBulkAll r
def uptoBulkEntries {H : Type} : List (Lit × DataW H) → Nat
  | [] => 0
  | x :: r => uptoBulkEntry x + uptoBulkEntries r
def uptoBulkEntry {H : Type} : Lit × DataW H → Nat
  | (.string bytes, d) => bytes.length + uptoBulk d + 1
  | (_, d) => uptoBulk d + 1
 end
def uptoSmall : (H : Type) → List (DataW H) → Bool := fun _ ds => decide (uptoBulkAll ds ≤ 1048576)
def OpenSpec.upto (s : _root_.Go.ChangeSpec) : _root_.Go.OpenSpec := { _root_.Go.OpenSpec.ofChange s with cond := some uptoSmall }

/-- 'laws.FnExactReaderOfShape', WHERE WHAT IT READS IS OF BULK AT MOST 1048576: true; the input reads as it did. -/
def fnExactReaderOfShapeUptoRow : OpenClaim := { program := "ytipandcflcidlaa", sum := "5309829c430a8792d8f9e6e145e8b714327b8d6ad6b800034c4c3ab59dea8356", func := "loop.example/g01134/laws.FnExactReaderOfShape", spec := "fnExactReaderOfShape", apart := false, narrowed := true }
def FnExactReaderOfShapeUptoSaid : Prop := fnExactReaderOfShapeUptoRow.holds Try.pinned (OpenSpec.upto fnExactReaderOfShapeSpec)

/-- 'laws.FnExactNthLastMany', WHERE WHAT IT READS IS OF BULK AT MOST 1048576: true; the input reads as it did. -/
def fnExactNthLastManyUptoRow : OpenClaim := { program := "ytipandcflcidlaa", sum := "5309829c430a8792d8f9e6e145e8b714327b8d6ad6b800034c4c3ab59dea8356", func := "loop.example/g01134/laws.FnExactNthLastMany", spec := "fnExactNthLastMany", apart := false, narrowed := true }
def FnExactNthLastManyUptoSaid : Prop := fnExactNthLastManyUptoRow.holds Try.pinned (OpenSpec.upto fnExactNthLastManySpec)

/-- 'laws.FnExactManyOfCycles', WHERE WHAT IT READS IS OF BULK AT MOST 1048576: true; the input reads as it did. -/
def fnExactManyOfCyclesUptoRow : OpenClaim := { program := "ytipandcflcidlaa", sum := "5309829c430a8792d8f9e6e145e8b714327b8d6ad6b800034c4c3ab59dea8356", func := "loop.example/g01134/laws.FnExactManyOfCycles", spec := "fnExactManyOfCycles", unfollowed := true, recurses := true, apart := false, narrowed := true }
def FnExactManyOfCyclesUptoSaid : Prop := fnExactManyOfCyclesUptoRow.holds Try.pinned (OpenSpec.upto fnExactManyOfCyclesSpec)

end Rows
end Go.Proofs.Ytipandcflcidlaa
