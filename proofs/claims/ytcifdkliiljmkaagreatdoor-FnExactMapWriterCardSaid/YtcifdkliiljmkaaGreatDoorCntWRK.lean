/-
  Plain lemmas: how many marks a writer and a reader bear, by their sizes. No program is named here.
-/
import Derived.Test.YtcifdkliiljmkaaGreatDoorCntTurnK
import Derived.Test.YtcifdkliiljmkaaGreatDoorCntTotK
import Derived.Test.YtcifdkliiljmkaaGreatDoorMWriterK
import Derived.Test.YtcifdkliiljmkaaGreatDoorPackB
import Derived.Test.YtcifdkliiljmkaaGreatDoorMReaderK
import Derived.Test.YtcifdkliiljmkaaGreatDoorTReaderK
namespace Go.Proofs.YtcifdkliiljmkaaGreatDoor
open Go.RowKit

theorem cntL_strs (l : List (List ByteArray)) : cntL strsM l ≤ sumF strSz l := by
  induction l with
  | nil => exact Nat.le_refl _
  | cons a l ih =>
    show a.length + cntL strsM l ≤ strSz a + sumF strSz l
    have h : a.length ≤ strSz a := by unfold strSz; omega
    omega

theorem cnt_le_totWriter (r : Writer) : writM.cnt r ≤ 2 * totWriter r := by
  show turnM.cnt r.turner + cntL strsM r.out ≤ _
  have h1 := cnt_le_totTurner r.turner
  have h2 := cntL_strs r.out
  unfold totWriter
  omega

theorem cnt_le_totReader (r : Reader) : readM.cnt r ≤ 2 * totReader r := by
  show r.accept.length + cntL intsM r.next ≤ _
  unfold totReader
  rw [cntL_ints]
  omega

end Go.Proofs.YtcifdkliiljmkaaGreatDoor
