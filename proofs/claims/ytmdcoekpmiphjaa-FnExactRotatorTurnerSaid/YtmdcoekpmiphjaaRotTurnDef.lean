/-
  RotatorTurner: what the program and the reference answer (written by a program of this claim's own, gen_rotturn.py).
-/
import Derived.Test.YtmdcoekpmiphjaaSpecRot
import Derived.Test.YtmdcoekpmiphjaaRotOk
import Derived.Test.YtmdcoekpmiphjaaRepeat
import Derived.Test.YtmdcoekpmiphjaaStep
import Derived.Deep.DeepCutAuto
import Derived.Test.YtmdcoekpmiphjaaTurnOut
import Derived.Test.YtmdcoekpmiphjaaMTurner
namespace Go.Proofs.Ytmdcoekpmiphjaa
open Go.RowKit

def rotMove (x : Int) : Move := ⟨x, 1⟩
def rotEnd (n : Nat) (e : Int) : Move := if e < 0 then ⟨e, 0⟩ else ⟨e + n, -1⟩
def rotRow1 (r : Rot) (s : Nat) : List Move := (r.next[s]?.getD []).map rotMove ++ [⟨s, 1⟩, rotEnd r.next.length (r.fin[s]?.getD 0)]
def rotRow2 (l n s : Nat) : List Move := List.replicate l ⟨n + s, -1⟩ ++ [⟨s, 1⟩, ⟨-2, 0⟩]
def rotatorTurner (r : Rot) : Turner × Int :=
  if validRot r then (⟨r.letters, r.start, (List.range r.next.length).map (rotRow1 r) ++ (List.range r.next.length).map (rotRow2 r.letters.toNat r.next.length)⟩, 0) else (default, 1)

theorem rotRow1_len {r : Rot} (K : RotOk r) (s : Nat) (h : s < r.next.length) : ((rotRow1 r s).length : Int) = r.letters + 2 := by
  have := (K.row _ (List.getElem_mem h)).1
  unfold rotRow1
  rw [List.getElem?_eq_getElem h]
  simp
  omega

theorem cnt_rotatorTurner (r : Rot) : turnM.cnt (rotatorTurner r).1 ≤ 4611686018427387000 := by
  unfold rotatorTurner
  split
  · rename_i h
    have k := rotOk h
    have k3 := k.l3; have k1 := k.l1; have k6 := k.n6
    have h1 := sum_map_le movesM.cnt 10 ((List.range r.next.length).map (rotRow1 r)) (fun x hx => by
      obtain ⟨s, hs, rfl⟩ := List.mem_map.1 hx
      have := rotRow1_len k s (List.mem_range.1 hs)
      show 2 * (rotRow1 r s).length ≤ 10
      omega)
    have h2 := sum_map_le movesM.cnt 10 ((List.range r.next.length).map (rotRow2 r.letters.toNat r.next.length)) (fun x hx => by
      obtain ⟨s, hs, rfl⟩ := List.mem_map.1 hx
      show 2 * (rotRow2 r.letters.toNat r.next.length s).length ≤ 10
      unfold rotRow2
      simp
      omega)
    rw [List.length_map, List.length_range] at h1 h2
    show cntL movesM (_ ++ _) ≤ _
    rw [cntL_append]
    have e1 : cntL movesM ((List.range r.next.length).map (rotRow1 r)) ≤ r.next.length * 10 := h1
    have e2 : cntL movesM ((List.range r.next.length).map (rotRow2 r.letters.toNat r.next.length)) ≤ r.next.length * 10 := h2
    omega
  · decide

end Go.Proofs.Ytmdcoekpmiphjaa
