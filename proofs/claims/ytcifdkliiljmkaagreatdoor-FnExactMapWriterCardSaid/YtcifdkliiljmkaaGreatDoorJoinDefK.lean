/-
  What ThenTurner and JoinWriters answer, in plain words (written by a program of this claim's own, gen_join.py).
-/
import Derived.Test.YtcifdkliiljmkaaGreatDoorPackB
import Derived.Test.YtcifdkliiljmkaaGreatDoorMWriterK
namespace Go.Proofs.YtcifdkliiljmkaaGreatDoor
open Go.RowKit

def raisedM (k : Int) (m : Move) : Move := if m.to < 0 then m else ⟨m.to + k, m.dir⟩
def homeM (home : Int) (m : Move) : Move := if m.to = -1 then ⟨home, -1⟩ else m
/-- The first move of the second turner, as the joined one makes it. -/
def beginM (t u : Turner) : Move := raisedM t.moves.length ((u.moves[u.start.toNat]?.getD default)[u.letters.toNat]?.getD default)
def thenRow (c : Nat) (home : Int) (b : Move) (row : List Move) : List Move := if (row[c]?.getD default).to = -1 then (row.map (homeM home)).set c b else row.map (homeM home)
def homeOf (t u : Turner) : Int := (t.moves.length : Int) + u.moves.length
def thenMs (t u : Turner) : List (List Move) :=
  t.moves.map (thenRow t.letters.toNat (homeOf t u) (beginM t u)) ++ u.moves.map (List.map (raisedM t.moves.length)) ++ [(List.replicate (t.letters.toNat + 2) (⟨homeOf t u, -1⟩ : Move)).set t.letters.toNat (beginM t u)]
def thenT (t u : Turner) : Turner := ⟨t.letters, t.start, thenMs t u⟩
def thenTurner (t u : Turner) : Turner × Int :=
  if validTurn t && validTurn u then (if t.letters = u.letters then (if validTurn (thenT t u) then (thenT t u, 0) else (default, 3)) else (default, 2)) else (default, 1)

/-- What is written at the second writer's first move. -/
def beginO (v : Writer) : ByteArray := (v.out[v.turner.start.toNat]?.getD default)[v.turner.letters.toNat]?.getD ByteArray.empty
def joinRow (c : Nat) (b : ByteArray) (ms : List Move) (row : List ByteArray) : List ByteArray := if (ms[c]?.getD default).to = -1 then row.set c ((row[c]?.getD ByteArray.empty) ++ b) else row
def joinOut (w v : Writer) : List (List ByteArray) :=
  (List.range w.out.length).map (fun s => joinRow w.turner.letters.toNat (beginO v) (w.turner.moves[s]?.getD default) (w.out[s]?.getD default)) ++ v.out ++ [(List.replicate (w.turner.letters.toNat + 2) (⟨#[]⟩ : ByteArray)).set w.turner.letters.toNat (beginO v)]
def joinW (w v : Writer) : Writer := ⟨thenT w.turner v.turner, joinOut w v⟩
def joinWriters (w v : Writer) : Writer × Int :=
  if writerOk w && writerOk v then (if (thenTurner w.turner v.turner).2 = 0 then (if writerOk (joinW w v) then (joinW w v, 0) else (default, 3)) else (default, (thenTurner w.turner v.turner).2)) else (default, 1)

theorem thenTurner_fst {t u : Turner} (h : (thenTurner t u).2 = 0) : (thenTurner t u).1 = thenT t u := by
  unfold thenTurner at h ⊢
  split
  · rename_i h1
    rw [if_pos h1] at h
    split
    · rename_i h2
      rw [if_pos h2] at h
      split
      · rfl
      · rename_i h3
        rw [if_neg h3] at h
        cases h
    · rename_i h2
      rw [if_neg h2] at h
      cases h
  · rename_i h1
    rw [if_neg h1] at h
    cases h

theorem cnt_joinWriters (w v : Writer) : writM.cnt (joinWriters w v).1 ≤ 4611686018427387000 := by
  unfold joinWriters
  split
  · split
    · split
      · rename_i h
        have K := writOk_of h
        have h1 := sum_map_le movesM.cnt 10 (joinW w v).turner.moves (fun x hx => by have := K.t.len hx; show 2 * x.length ≤ 10; omega)
        have h2 := sum_map_le strsM.cnt 5 (joinW w v).out (fun x hx => by have := K.len hx; show x.length ≤ 5; omega)
        have h3 := K.t.n12
        have h4 := K.n
        show ((joinW w v).turner.moves.map movesM.cnt).sum + ((joinW w v).out.map strsM.cnt).sum ≤ _
        omega
      · decide
    · show writM.cnt default ≤ _
      decide
  · decide

end Go.Proofs.YtcifdkliiljmkaaGreatDoor
