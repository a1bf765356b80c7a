/-
  Contracts of the laws' own helpers at one slice type (written by a program of this claim's own, gen_leaf.py).
-/
import Derived.Test.YtnkhgfdlehhjmaaDoorMInt64SK
namespace Go.Proofs.YtnkhgfdlehhjmaaDoor
open Go.RowKit

end Go.Proofs.YtnkhgfdlehhjmaaDoor
