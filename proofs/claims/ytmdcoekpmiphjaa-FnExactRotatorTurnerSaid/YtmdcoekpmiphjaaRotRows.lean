/-
  Copies of lists of numbers: the program's ownLists, the reference's l06Rows.
-/
import Derived.Test.YtmdcoekpmiphjaaStar
import Derived.Test.YtmdcoekpmiphjaaClone
import Derived.Test.YtmdcoekpmiphjaaShape
namespace Go.Proofs.Ytmdcoekpmiphjaa
open Go.RowKit

/-- Numbers with something added. -/
def plusAll (l : List (List Int)) (d : Int) : List (List Int) := l.map fun r => r.map (· + d)

end Go.Proofs.Ytmdcoekpmiphjaa
