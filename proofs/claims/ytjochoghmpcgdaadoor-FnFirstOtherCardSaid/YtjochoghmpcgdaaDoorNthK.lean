/-
  The numbers that NthLast.. takes.
-/
import Derived.Test.YtjochoghmpcgdaaDoorPackA
namespace Go.Proofs.YtjochoghmpcgdaaDoor
open Go.RowKit

def nthOk (letters n : Int) : Bool := within letters 1 3 && within n 1 8

end Go.Proofs.YtjochoghmpcgdaaDoor
