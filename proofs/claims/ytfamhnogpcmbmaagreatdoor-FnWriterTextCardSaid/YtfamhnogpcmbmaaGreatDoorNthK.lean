/-
  The numbers that NthLast.. takes.
-/
import Derived.Test.YtfamhnogpcmbmaaGreatDoorPackA
namespace Go.Proofs.YtfamhnogpcmbmaaGreatDoor
open Go.RowKit

def nthOk (letters n : Int) : Bool := within letters 1 3 && within n 1 8

end Go.Proofs.YtfamhnogpcmbmaaGreatDoor
