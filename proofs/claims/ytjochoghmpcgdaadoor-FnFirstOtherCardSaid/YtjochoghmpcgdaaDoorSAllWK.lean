/-
  The specification's list of all words up to a length.
-/
import Derived.Test.YtjochoghmpcgdaaDoorPackB
import Derived.Deep.DeepCutAuto
namespace Go.Proofs.YtjochoghmpcgdaaDoor
open Go.RowKit

def strW (l : List UInt8) : ByteArray := ⟨l.toArray⟩

/-- Words in the making: all up to a length k, and of the next those of the first i words, and of one more those with the first j letters. -/
def madeW (c k i j : Nat) : List (List UInt8) :=
  allW c k ++ ((wordsN c k).take i).flatMap (fun w => (List.range c).map fun a => w ++ [UInt8.ofNat (97 + a)]) ++
    (List.range j).map fun a => ((wordsN c k)[i]?.getD []) ++ [UInt8.ofNat (97 + a)]

theorem madeW_zero (c k : Nat) : madeW c k 0 0 = allW c k := by unfold madeW; simp

theorem madeW_letter (c k i j : Nat) : madeW c k i (j + 1) = madeW c k i j ++ [((wordsN c k)[i]?.getD []) ++ [UInt8.ofNat (97 + j)]] := by
  unfold madeW
  rw [List.range_succ, List.map_append, ← List.append_assoc]
  rfl

theorem madeW_word (c k i : Nat) (h : i < (wordsN c k).length) : madeW c k i c = madeW c k (i + 1) 0 := by
  unfold madeW
  rw [List.take_succ_eq_append_getElem h, List.flatMap_append, List.getElem?_eq_getElem h, Option.getD_some]
  simp

theorem madeW_all (c k : Nat) : madeW c k (wordsN c k).length 0 = allW c (k + 1) := by
  unfold madeW
  rw [List.take_length, allW_succ]
  simp [wordsN]

end Go.Proofs.YtjochoghmpcgdaaDoor
