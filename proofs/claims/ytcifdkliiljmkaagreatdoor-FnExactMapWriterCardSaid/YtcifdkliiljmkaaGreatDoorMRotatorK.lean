/-
  The contracts of the laws' own markRotator and heldRotator (written by a program of this claim's own, gen_structs.py).
-/
import Derived.Test.YtcifdkliiljmkaaGreatDoorMInt64SK
import Derived.Test.YtcifdkliiljmkaaGreatDoorMInt64SSK
import Derived.Test.YtcifdkliiljmkaaGreatDoorPackB
namespace Go.Proofs.YtcifdkliiljmkaaGreatDoor
open Go.RowKit

def rotsM : Mk Rot := ⟨fun r k => (listM intsM).held r.next (k) ∧ intsM.held r.fin (k + ((listM intsM).cnt r.next : Int)), fun r => (listM intsM).cnt r.next + intsM.cnt r.fin⟩

end Go.Proofs.YtcifdkliiljmkaaGreatDoor
