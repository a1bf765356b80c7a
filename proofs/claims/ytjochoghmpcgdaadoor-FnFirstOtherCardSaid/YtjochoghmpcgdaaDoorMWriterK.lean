/-
  The contracts of the laws' own markWriter and heldWriter.
-/
import Derived.Test.YtjochoghmpcgdaaDoorMTurnerK
import Derived.Test.YtjochoghmpcgdaaDoorMStringSSK
namespace Go.Proofs.YtjochoghmpcgdaaDoor
open Go.RowKit

def writM : Mk Writer := ⟨fun r k => turnM.held r.turner k ∧ (listM strsM).held r.out (k + (turnM.cnt r.turner : Int)), fun r => turnM.cnt r.turner + (listM strsM).cnt r.out⟩

end Go.Proofs.YtjochoghmpcgdaaDoor
