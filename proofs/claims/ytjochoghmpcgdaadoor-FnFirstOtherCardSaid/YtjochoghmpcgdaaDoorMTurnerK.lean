/-
  The contracts of the laws' own markTurner and heldTurner (written by a program of this claim's own, gen_structs.py).
-/
import Derived.Test.YtjochoghmpcgdaaDoorMMoveSSK
import Derived.Test.YtjochoghmpcgdaaDoorPackB
namespace Go.Proofs.YtjochoghmpcgdaaDoor
open Go.RowKit

def turnM : Mk Turner := ⟨fun r k => (listM movesM).held r.moves (k), fun r => (listM movesM).cnt r.moves⟩

end Go.Proofs.YtjochoghmpcgdaaDoor
