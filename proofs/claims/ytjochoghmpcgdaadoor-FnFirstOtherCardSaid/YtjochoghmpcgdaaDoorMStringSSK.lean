/-
  Contracts of the laws' own helpers at one slice type (written by a program of this claim's own, gen_leaf.py).
-/
import Derived.Test.YtjochoghmpcgdaaDoorMStringSK
namespace Go.Proofs.YtjochoghmpcgdaaDoor
open Go.RowKit

end Go.Proofs.YtjochoghmpcgdaaDoor
