/-
  BackWriter: what both answer, and the program's own small helpers.
-/
import Derived.Test.YtfamhnogpcmbmaaGreatDoorNthK
import Derived.Test.YtfamhnogpcmbmaaGreatDoorRepeatK
import Derived.Test.YtfamhnogpcmbmaaGreatDoorPackB
import Derived.Deep.DeepCutAuto
namespace Go.Proofs.YtfamhnogpcmbmaaGreatDoor
open Go.RowKit

def letter (a : Nat) : ByteArray := ⟨#[UInt8.ofNat (97 + a)]⟩
def back0 (L : Nat) : List Move := List.replicate L ⟨0, 1⟩ ++ [⟨0, 1⟩, ⟨1, -1⟩]
def back1 (L : Nat) : List Move := List.replicate L ⟨1, -1⟩ ++ [⟨-1, 0⟩, ⟨1, -1⟩]
def noStr (L : Nat) : List ByteArray := List.replicate L ⟨#[]⟩ ++ [⟨#[]⟩, ⟨#[]⟩]
def allStr (L : Nat) : List ByteArray := (List.range L).map letter ++ [⟨#[]⟩, ⟨#[]⟩]

def backWriter (letters : Int) : Writer × Int :=
  if within letters 1 3 then (⟨⟨letters, 0, [back0 letters.toNat, back1 letters.toNat]⟩, [noStr letters.toNat, allStr letters.toNat]⟩, 0) else (default, 2)

theorem cnt_backWriter (letters : Int) : writM.cnt (backWriter letters).1 ≤ 4611686018427387000 := by
  unfold backWriter
  split
  · rename_i h
    have h1 := within_true.1 h
    obtain ⟨L, rfl⟩ : ∃ L : Nat, letters = L := ⟨letters.toNat, by omega⟩
    have : L = 1 ∨ L = 2 ∨ L = 3 := by omega
    rcases this with rfl | rfl | rfl <;> decide
  · decide

end Go.Proofs.YtfamhnogpcmbmaaGreatDoor
