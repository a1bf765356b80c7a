/-
  No cell of these rows narrows 'for every input' (looked for: loops, veiled, ifaces, maps, wideKeys, modest, calm, conditions, laid).
  DERIVED. THE GIVEN ROWS OF THIS SEAT. 3 by the template 'for every input the law returns true; each argument reads behind the call as it read before'; 0 by the template 'total and deterministic' (their statements: YtmdcoekpmiphjaaTotals.lean).
  GIVEN WITH THE SEED: the statements are not yours to turn. If you find one false, say at which input.
  Laid BY PROGRAM, IN A SANDBOX (cutbox-rows.mjs): the forced cells as the released guide's own fill.sh prints them over the translation 84a276004ecec9cf… (all of the seat's roots in one cut). By AI agents, Wed Nov 11 2026. No macro, syntax, notation, axiom, sorry.
-/
import Derived.Test.YtmdcoekpmiphjaaChecked
import GoSem.Claim
import GoSem.ClaimJoined
import GoSem.ClaimMapViews
import Derived.JoinedTies
import Derived.KernelRfl
namespace Go.Proofs.Ytmdcoekpmiphjaa
/- THE CELL 'sum', in the pinned program and in every row, IS THE sha256 OF THE DUMP (.gsa) THAT YtmdcoekpmiphjaaProg.lean LOADS. Nothing in Lean hashes anything: it is a label: what it is worth is what the hold of that sum in a sandbox is worth. -/
noncomputable def Try.pinned : Pinned := { name := "ytmdcoekpmiphjaa", sum := "84a276004ecec9cfc03e00eeb658976cb57a0897f197281a16a71ed3111d3ad3", checked := Try.checked }
namespace Rows
def none {H : Type} : Left H := { results := [], args := [] }

/-- 'laws.FnExactNthLastTurner': WHATEVER THE INPUT: true; the input reads as it did. -/
def fnExactNthLastTurnerSpec : ChangeSpec := { name := "fnExactNthLastTurner", fn := fun _ => fun
  | [d1, d2] => { results := [.lit (.bool true)], args := [d1, d2] }
  | _ => none }
def fnExactNthLastTurnerRow : OpenClaim := { program := "ytmdcoekpmiphjaa", sum := "84a276004ecec9cfc03e00eeb658976cb57a0897f197281a16a71ed3111d3ad3", func := "loop.example/g01134/laws.FnExactNthLastTurner", spec := "fnExactNthLastTurner", apart := false }
def FnExactNthLastTurnerSaid : Prop := fnExactNthLastTurnerRow.holds Try.pinned (OpenSpec.ofChange fnExactNthLastTurnerSpec)

/-- ITS FALSE NEIGHBOUR: 'it returns false'. Refute it at one input. -/
def fnExactNthLastTurnerWrong : ChangeSpec := { name := "fnExactNthLastTurner", fn := fun _ => fun
  | [d1, d2] => { results := [.lit (.bool false)], args := [d1, d2] }
  | _ => none }
def FnExactNthLastTurnerWrongFalsely : Prop := fnExactNthLastTurnerRow.holds Try.pinned (OpenSpec.ofChange fnExactNthLastTurnerWrong)

/-- 'laws.FnExactBackWriter': WHATEVER THE INPUT: true; the input reads as it did. -/
def fnExactBackWriterSpec : ChangeSpec := { name := "fnExactBackWriter", fn := fun _ => fun
  | [d] => { results := [.lit (.bool true)], args := [d] }
  | _ => none }
def fnExactBackWriterRow : OpenClaim := { program := "ytmdcoekpmiphjaa", sum := "84a276004ecec9cfc03e00eeb658976cb57a0897f197281a16a71ed3111d3ad3", func := "loop.example/g01134/laws.FnExactBackWriter", spec := "fnExactBackWriter", apart := false }
def FnExactBackWriterSaid : Prop := fnExactBackWriterRow.holds Try.pinned (OpenSpec.ofChange fnExactBackWriterSpec)

/-- ITS FALSE NEIGHBOUR: 'it returns false'. Refute it at one input. -/
def fnExactBackWriterWrong : ChangeSpec := { name := "fnExactBackWriter", fn := fun _ => fun
  | [d] => { results := [.lit (.bool false)], args := [d] }
  | _ => none }
def FnExactBackWriterWrongFalsely : Prop := fnExactBackWriterRow.holds Try.pinned (OpenSpec.ofChange fnExactBackWriterWrong)

/-- 'laws.FnExactRotatorTurner': WHATEVER THE INPUT: true; the input reads as it did. -/
def fnExactRotatorTurnerSpec : ChangeSpec := { name := "fnExactRotatorTurner", fn := fun _ => fun
  | [d] => { results := [.lit (.bool true)], args := [d] }
  | _ => none }
def fnExactRotatorTurnerRow : OpenClaim := { program := "ytmdcoekpmiphjaa", sum := "84a276004ecec9cfc03e00eeb658976cb57a0897f197281a16a71ed3111d3ad3", func := "loop.example/g01134/laws.FnExactRotatorTurner", spec := "fnExactRotatorTurner", unfollowed := true, recurses := true, apart := false }
def FnExactRotatorTurnerSaid : Prop := fnExactRotatorTurnerRow.holds Try.pinned (OpenSpec.ofChange fnExactRotatorTurnerSpec)

/-- ITS FALSE NEIGHBOUR: 'it returns false'. Refute it at one input. -/
def fnExactRotatorTurnerWrong : ChangeSpec := { name := "fnExactRotatorTurner", fn := fun _ => fun
  | [d] => { results := [.lit (.bool false)], args := [d] }
  | _ => none }
def FnExactRotatorTurnerWrongFalsely : Prop := fnExactRotatorTurnerRow.holds Try.pinned (OpenSpec.ofChange fnExactRotatorTurnerWrong)

/- THE SECOND FORM. 'bulk': how many values and letters a reading holds, each counted each time it is reached (what is shared counts as often as it is met; a slice's spare places count too). A statement '..UptoSaid' is the law's where the arguments, and the package variables that the reading takes, are together of bulk at most 1048576: NARROWER than '..Said'. Prove '..Said' where nothing that the law and all that it calls make is longer than what came in: it says more and counts as full. Else prove '..UptoSaid'. A law counts once. -/
mutual
def uptoBulk {H : Type} : DataW H → Nat
  | .lit (.string bytes) => bytes.length + 1
  | .lit _ => 1
  | .nil => 1
  | .ptr d => uptoBulk d + 1
  | .slice elems spare => uptoBulkAll elems + uptoBulkAll spare + 1
  | .agg parts => uptoBulkAll parts + 1
  | .iface _ d => uptoBulk d + 1
  | .map entries => uptoBulkEntries entries + 1
  | .held _ => 1
def uptoBulkAll {H : Type} : List (DataW H) → Nat
  | [] => 0
  | d :: r => uptoBulk d + uptoBulkAll r
def uptoBulkEntries {H : Type} : List (Lit × DataW H) → Nat
  | [] => 0
  | x :: r => uptoBulkEntry x + uptoBulkEntries r
def uptoBulkEntry {H : Type} : Lit × DataW H → Nat
  | (.string bytes, d) => bytes.length + uptoBulk d + 1
  | (_, d) => uptoBulk d + 1
 end
def uptoSmall : (H : Type) → List (DataW H) → Bool := fun _ ds => decide (uptoBulkAll ds ≤ 1048576)
def OpenSpec.upto (s : _root_.Go.ChangeSpec) : _root_.Go.OpenSpec := { _root_.Go.OpenSpec.ofChange s with cond := some uptoSmall }

/-- 'laws.FnExactNthLastTurner', WHERE WHAT IT READS IS OF BULK AT MOST 1048576: true; the input reads as it did. -/
def fnExactNthLastTurnerUptoRow : OpenClaim := { program := "ytmdcoekpmiphjaa", sum := "84a276004ecec9cfc03e00eeb658976cb57a0897f197281a16a71ed3111d3ad3", func := "loop.example/g01134/laws.FnExactNthLastTurner", spec := "fnExactNthLastTurner", apart := false, narrowed := true }
def FnExactNthLastTurnerUptoSaid : Prop := fnExactNthLastTurnerUptoRow.holds Try.pinned (OpenSpec.upto fnExactNthLastTurnerSpec)

/-- 'laws.FnExactBackWriter', WHERE WHAT IT READS IS OF BULK AT MOST 1048576: true; the input reads as it did. -/
def fnExactBackWriterUptoRow : OpenClaim := { program := "ytmdcoekpmiphjaa", sum := "84a276004ecec9cfc03e00eeb658976cb57a0897f197281a16a71ed3111d3ad3", func := "loop.example/g01134/laws.FnExactBackWriter", spec := "fnExactBackWriter", apart := false, narrowed := true }
def FnExactBackWriterUptoSaid : Prop := fnExactBackWriterUptoRow.holds Try.pinned (OpenSpec.upto fnExactBackWriterSpec)

/-- 'laws.FnExactRotatorTurner', WHERE WHAT IT READS IS OF BULK AT MOST 1048576: true; the input reads as it did. -/
def fnExactRotatorTurnerUptoRow : OpenClaim := { program := "ytmdcoekpmiphjaa", sum := "84a276004ecec9cfc03e00eeb658976cb57a0897f197281a16a71ed3111d3ad3", func := "loop.example/g01134/laws.FnExactRotatorTurner", spec := "fnExactRotatorTurner", unfollowed := true, recurses := true, apart := false, narrowed := true }
def FnExactRotatorTurnerUptoSaid : Prop := fnExactRotatorTurnerUptoRow.holds Try.pinned (OpenSpec.upto fnExactRotatorTurnerSpec)

end Rows
end Go.Proofs.Ytmdcoekpmiphjaa
