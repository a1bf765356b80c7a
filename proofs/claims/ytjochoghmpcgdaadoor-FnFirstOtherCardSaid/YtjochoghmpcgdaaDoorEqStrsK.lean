/-
  The comparisons of lists of strings, and of lists of these (written by a program of this claim's own, gen_eq.py).
-/
import Derived.Laws.StructEq
import Derived.Test.YtjochoghmpcgdaaDoorPackA
namespace Go.Proofs.YtjochoghmpcgdaaDoor
open Go.RowKit

end Go.Proofs.YtjochoghmpcgdaaDoor
