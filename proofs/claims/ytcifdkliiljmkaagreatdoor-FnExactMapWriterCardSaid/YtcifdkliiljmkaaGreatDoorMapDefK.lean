/-
  What MapWriter answers, in plain words.
-/
import Derived.Test.YtcifdkliiljmkaaGreatDoorPackB
import Derived.Test.YtcifdkliiljmkaaGreatDoorMWriterK
namespace Go.Proofs.YtcifdkliiljmkaaGreatDoor
open Go.RowKit

/-- The words of a text's letters, one behind the other. -/
def mapL (ws : List ByteArray) (l : List UInt8) : List UInt8 := l.flatMap fun c => (ws.getD (c.toNat - 97) ByteArray.empty).data.toList
def mapText (ws : List ByteArray) (x : ByteArray) : ByteArray := ⟨(mapL ws x.data.toList).toArray⟩
def mapW (w : Writer) (ws : List ByteArray) : Writer := ⟨w.turner, w.out.map (List.map (mapText ws))⟩
def mapWriter (w : Writer) (ws : List ByteArray) : Writer × Int :=
  if writerOk w && (decide (ws.length = 3) && ws.all outOk) then (if writerOk (mapW w ws) then (mapW w ws, 0) else (default, 3)) else (default, 1)

theorem cnt_mapWriter (w : Writer) (ws : List ByteArray) : writM.cnt (mapWriter w ws).1 ≤ 4611686018427387000 := by
  unfold mapWriter
  split
  · split
    · rename_i h
      have K := writOk_of h
      have h1 := sum_map_le movesM.cnt 10 (mapW w ws).turner.moves (fun x hx => by have := K.t.len hx; show 2 * x.length ≤ 10; omega)
      have h2 := sum_map_le strsM.cnt 5 (mapW w ws).out (fun x hx => by have := K.len hx; show x.length ≤ 5; omega)
      have h3 := K.t.n12
      have h4 := K.n
      show ((mapW w ws).turner.moves.map movesM.cnt).sum + ((mapW w ws).out.map strsM.cnt).sum ≤ _
      omega
    · decide
  · decide

end Go.Proofs.YtcifdkliiljmkaaGreatDoor
