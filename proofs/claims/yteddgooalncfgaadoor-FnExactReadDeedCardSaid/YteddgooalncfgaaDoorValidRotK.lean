/-
  The contract of the program's ValidRotator.
-/
import Derived.Test.YteddgooalncfgaaDoorStatesK
import Derived.Test.YteddgooalncfgaaDoorFuncsGK
namespace Go.Proofs.YteddgooalncfgaaDoor
open Go.RowKit

/-- A rotator that is one. -/
def validRot (r : Rot) : Bool :=
  within r.letters 1 3 && (within r.next.length 1 6 && (within r.start 0 (r.next.length - 1) && (decide ((r.fin.length : Int) = r.next.length) &&
    ((r.fin.all fun e => within e (-2) (r.next.length - 1)) && (r.next.all fun l => areStates l r.letters r.next.length)))))

end Go.Proofs.YteddgooalncfgaaDoor
