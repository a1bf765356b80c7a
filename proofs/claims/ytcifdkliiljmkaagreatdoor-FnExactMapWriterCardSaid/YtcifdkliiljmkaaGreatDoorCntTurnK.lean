/-
  Plain lemmas: how many marks a turner bears, by its size. No program is named here.
-/
import Derived.Test.YtcifdkliiljmkaaGreatDoorMTurnerK
import Derived.Test.YtcifdkliiljmkaaGreatDoorPackA
namespace Go.Proofs.YtcifdkliiljmkaaGreatDoor
open Go.RowKit

theorem cntL_moves (l : List (List Move)) : cntL movesM l = 2 * sumLen l := by
  induction l with
  | nil => rfl
  | cons a l ih =>
    show movesM.cnt a + cntL movesM l = 2 * (a.length + sumLen l)
    rw [ih]
    show 2 * a.length + _ = _
    omega

theorem cnt_le_totTurner (r : Turner) : turnM.cnt r ≤ 2 * totTurner r := by
  show cntL movesM r.moves ≤ _
  unfold totTurner
  rw [cntL_moves]
  omega

end Go.Proofs.YtcifdkliiljmkaaGreatDoor
