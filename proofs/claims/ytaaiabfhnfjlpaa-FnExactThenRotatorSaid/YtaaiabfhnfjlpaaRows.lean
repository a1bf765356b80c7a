/-
  No cell of these rows narrows 'for every input' (looked for: loops, veiled, ifaces, maps, wideKeys, modest, calm, conditions, laid).
  DERIVED. THE GIVEN ROWS OF THIS SEAT. 3 by the template 'for every input the law returns true; each argument reads behind the call as it read before'; 0 by the template 'total and deterministic' (their statements: YtaaiabfhnfjlpaaTotals.lean).
  GIVEN WITH THE SEED: the statements are not yours to turn. If you find one false, say at which input.
  Laid BY PROGRAM, IN A SANDBOX (cutbox-rows.mjs): the forced cells as the released guide's own fill.sh prints them over the translation 13dd0fe151eb5d5d… (all of the seat's roots in one cut). By AI agents, Wed Nov 11 2026. No macro, syntax, notation, axiom, sorry.
-/
import Derived.Test.YtaaiabfhnfjlpaaChecked
import GoSem.Claim
import GoSem.ClaimJoined
import GoSem.ClaimMapViews
import Derived.JoinedTies
import Derived.KernelRfl
namespace Go.Proofs.Ytaaiabfhnfjlpaa
/- THE CELL 'sum', in the pinned program and in every row, IS THE sha256 OF THE DUMP (.gsa) THAT YtaaiabfhnfjlpaaProg.lean LOADS. Nothing in Lean hashes anything: it is a label: what it is worth is what the hold of that sum in a sandbox is worth. -/
noncomputable def Try.pinned : Pinned := { name := "ytaaiabfhnfjlpaa", sum := "13dd0fe151eb5d5d40db0e03531aa57792ad33e41073ec8aba4507233404a703", checked := Try.checked }
namespace Rows
def none {H : Type} : Left H := { results := [], args := [] }

/-- 'laws.FnExactSameRotator': WHATEVER THE INPUT: true; the input reads as it did. -/
def fnExactSameRotatorSpec : ChangeSpec := { name := "fnExactSameRotator", fn := fun _ => fun
  | [d1, d2] => { results := [.lit (.bool true)], args := [d1, d2] }
  | _ => none }
def fnExactSameRotatorRow : OpenClaim := { program := "ytaaiabfhnfjlpaa", sum := "13dd0fe151eb5d5d40db0e03531aa57792ad33e41073ec8aba4507233404a703", func := "loop.example/g01134/laws.FnExactSameRotator", spec := "fnExactSameRotator", unfollowed := true, recurses := true, apart := false }
def FnExactSameRotatorSaid : Prop := fnExactSameRotatorRow.holds Try.pinned (OpenSpec.ofChange fnExactSameRotatorSpec)

/-- ITS FALSE NEIGHBOUR: 'it returns false'. Refute it at one input. -/
def fnExactSameRotatorWrong : ChangeSpec := { name := "fnExactSameRotator", fn := fun _ => fun
  | [d1, d2] => { results := [.lit (.bool false)], args := [d1, d2] }
  | _ => none }
def FnExactSameRotatorWrongFalsely : Prop := fnExactSameRotatorRow.holds Try.pinned (OpenSpec.ofChange fnExactSameRotatorWrong)

/-- 'laws.FnExactNotRotator': WHATEVER THE INPUT: true; the input reads as it did. -/
def fnExactNotRotatorSpec : ChangeSpec := { name := "fnExactNotRotator", fn := fun _ => fun
  | [d] => { results := [.lit (.bool true)], args := [d] }
  | _ => none }
def fnExactNotRotatorRow : OpenClaim := { program := "ytaaiabfhnfjlpaa", sum := "13dd0fe151eb5d5d40db0e03531aa57792ad33e41073ec8aba4507233404a703", func := "loop.example/g01134/laws.FnExactNotRotator", spec := "fnExactNotRotator", unfollowed := true, recurses := true, apart := false }
def FnExactNotRotatorSaid : Prop := fnExactNotRotatorRow.holds Try.pinned (OpenSpec.ofChange fnExactNotRotatorSpec)

/-- ITS FALSE NEIGHBOUR: 'it returns false'. Refute it at one input. -/
def fnExactNotRotatorWrong : ChangeSpec := { name := "fnExactNotRotator", fn := fun _ => fun
  | [d] => { results := [.lit (.bool false)], args := [d] }
  | _ => none }
def FnExactNotRotatorWrongFalsely : Prop := fnExactNotRotatorRow.holds Try.pinned (OpenSpec.ofChange fnExactNotRotatorWrong)

/-- 'laws.FnExactThenRotator': WHATEVER THE INPUT: true; the input reads as it did. -/
def fnExactThenRotatorSpec : ChangeSpec := { name := "fnExactThenRotator", fn := fun _ => fun
  | [d1, d2] => { results := [.lit (.bool true)], args := [d1, d2] }
  | _ => none }
def fnExactThenRotatorRow : OpenClaim := { program := "ytaaiabfhnfjlpaa", sum := "13dd0fe151eb5d5d40db0e03531aa57792ad33e41073ec8aba4507233404a703", func := "loop.example/g01134/laws.FnExactThenRotator", spec := "fnExactThenRotator", unfollowed := true, recurses := true, apart := false }
def FnExactThenRotatorSaid : Prop := fnExactThenRotatorRow.holds Try.pinned (OpenSpec.ofChange fnExactThenRotatorSpec)

/-- ITS FALSE NEIGHBOUR: 'it returns false'. Refute it at one input. -/
def fnExactThenRotatorWrong : ChangeSpec := { name := "fnExactThenRotator", fn := fun _ => fun
  | [d1, d2] => { results := [.lit (.bool false)], args := [d1, d2] }
  | _ => none }
def FnExactThenRotatorWrongFalsely : Prop := fnExactThenRotatorRow.holds Try.pinned (OpenSpec.ofChange fnExactThenRotatorWrong)

/- THE SECOND FORM. 'bulk': how many values and letters a reading holds, each counted each time it is reached (what is shared counts as often as it is met; a slice's spare places count too). A statement '..UptoSaid' is the law's where the arguments, and the package variables that the reading takes, are together of bulk at most 1048576: NARROWER than '..Said'. Prove '..Said' where nothing that the law and all that it calls make is longer than what came in: it says more and counts as full. Else prove '..UptoSaid'. A law counts once. -/
mutual
def uptoBulk {H : Type} : DataW H → Nat
  | .lit (.string bytes) => bytes.length + 1
  | .lit _ => 1
  | .nil => 1
  | .ptr d => uptoBulk d + 1
  | .slice elems spare => uptoBulkAll elems + uptoBulkAll spare + 1
  | .agg parts => uptoBulkAll parts + 1
  | .iface _ d => uptoBulk d + 1
  | .map entries => uptoBulkEntries entries + 1
  | .held _ => 1
def uptoBulkAll {H : Type} : List (DataW H) → Nat
  | [] => 0
  | d :: r => uptoBulk d + uptoBulkAll r
def uptoBulkEntries {H : Type} : List (Lit × DataW H) → Nat
  | [] => 0
  | x :: r => uptoBulkEntry x + uptoBulkEntries r
def uptoBulkEntry {H : Type} : Lit × DataW H → Nat
  | (.string bytes, d) => bytes.length + uptoBulk d + 1
  | (_, d) => uptoBulk d + 1
 end
def uptoSmall : (H : Type) → List (DataW H) → Bool := fun _ ds => decide (uptoBulkAll ds ≤ 1048576)
def OpenSpec.upto (s : _root_.Go.ChangeSpec) : _root_.Go.OpenSpec := { _root_.Go.OpenSpec.ofChange s with cond := some uptoSmall }

/-- 'laws.FnExactSameRotator', WHERE WHAT IT READS IS OF BULK AT MOST 1048576: true; the input reads as it did. -/
def fnExactSameRotatorUptoRow : OpenClaim := { program := "ytaaiabfhnfjlpaa", sum := "13dd0fe151eb5d5d40db0e03531aa57792ad33e41073ec8aba4507233404a703", func := "loop.example/g01134/laws.FnExactSameRotator", spec := "fnExactSameRotator", unfollowed := true, recurses := true, apart := false, narrowed := true }
def FnExactSameRotatorUptoSaid : Prop := fnExactSameRotatorUptoRow.holds Try.pinned (OpenSpec.upto fnExactSameRotatorSpec)

/-- 'laws.FnExactNotRotator', WHERE WHAT IT READS IS OF BULK AT MOST 1048576: true; the input reads as it did. -/
def fnExactNotRotatorUptoRow : OpenClaim := { program := "ytaaiabfhnfjlpaa", sum := "13dd0fe151eb5d5d40db0e03531aa57792ad33e41073ec8aba4507233404a703", func := "loop.example/g01134/laws.FnExactNotRotator", spec := "fnExactNotRotator", unfollowed := true, recurses := true, apart := false, narrowed := true }
def FnExactNotRotatorUptoSaid : Prop := fnExactNotRotatorUptoRow.holds Try.pinned (OpenSpec.upto fnExactNotRotatorSpec)

/-- 'laws.FnExactThenRotator', WHERE WHAT IT READS IS OF BULK AT MOST 1048576: true; the input reads as it did. -/
def fnExactThenRotatorUptoRow : OpenClaim := { program := "ytaaiabfhnfjlpaa", sum := "13dd0fe151eb5d5d40db0e03531aa57792ad33e41073ec8aba4507233404a703", func := "loop.example/g01134/laws.FnExactThenRotator", spec := "fnExactThenRotator", unfollowed := true, recurses := true, apart := false, narrowed := true }
def FnExactThenRotatorUptoSaid : Prop := fnExactThenRotatorUptoRow.holds Try.pinned (OpenSpec.upto fnExactThenRotatorSpec)

end Rows
end Go.Proofs.Ytaaiabfhnfjlpaa
