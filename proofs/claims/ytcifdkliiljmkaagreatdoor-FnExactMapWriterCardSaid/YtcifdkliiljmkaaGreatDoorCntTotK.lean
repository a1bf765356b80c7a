/-
  Plain lemmas: how many marks an argument bears, by its size. No program is named here.
-/
import Derived.Test.YtcifdkliiljmkaaGreatDoorMRotatorK
import Derived.Test.YtcifdkliiljmkaaGreatDoorTRotatorK
namespace Go.Proofs.YtcifdkliiljmkaaGreatDoor
open Go.RowKit

theorem cntL_ints (l : List (List Int)) : cntL intsM l = sumLen l := rfl

theorem cnt_le_totRot (r : Rot) : rotsM.cnt r ≤ totRot r := by
  show cntL intsM r.next + r.fin.length ≤ _
  unfold totRot
  rw [cntL_ints]
  omega

end Go.Proofs.YtcifdkliiljmkaaGreatDoor
