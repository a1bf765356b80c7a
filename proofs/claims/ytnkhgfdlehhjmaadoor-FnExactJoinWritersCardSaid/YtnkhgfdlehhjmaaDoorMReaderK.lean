/-
  The contracts of the laws' own markReader and heldReader (written by a program of this claim's own, gen_structs.py).
-/
import Derived.Test.YtnkhgfdlehhjmaaDoorMBoolSK
import Derived.Test.YtnkhgfdlehhjmaaDoorMInt64SSK
import Derived.Test.YtnkhgfdlehhjmaaDoorPackA
namespace Go.Proofs.YtnkhgfdlehhjmaaDoor
open Go.RowKit

def readM : Mk Reader := ⟨fun r k => boolsM.held r.accept (k) ∧ (listM intsM).held r.next (k + (boolsM.cnt r.accept : Int)), fun r => boolsM.cnt r.accept + (listM intsM).cnt r.next⟩

end Go.Proofs.YtnkhgfdlehhjmaaDoor
