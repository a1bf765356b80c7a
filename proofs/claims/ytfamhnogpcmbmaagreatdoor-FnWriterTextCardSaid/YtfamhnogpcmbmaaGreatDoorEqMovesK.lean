/-
  The comparisons of lists of a turner's moves, and of lists of these (written by a program of this claim's own, gen_eq.py).
-/
import Derived.Laws.StructEq
import Derived.Test.YtfamhnogpcmbmaaGreatDoorPackA
namespace Go.Proofs.YtfamhnogpcmbmaaGreatDoor
open Go.RowKit

end Go.Proofs.YtfamhnogpcmbmaaGreatDoor
