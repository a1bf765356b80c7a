/-
  Contracts of the program's size, isAlphabet and areStates.
-/
import Derived.Test.YteddgooalncfgaaDoorFuncsK
namespace Go.Proofs.YteddgooalncfgaaDoor
open Go.RowKit

theorem within_is (r : Bool) (n lo hi : Int) (w : World) (h : within n lo hi = r) : Calls Tryd.prog 25 #[.int .i64 n, .int .i64 lo, .int .i64 hi] w (Gives (.bool r) w) := h ▸ within_any n lo hi w

/-- So many numbers, each of them a state. -/
def areStates (l : List Int) (count states : Int) : Bool := decide ((l.length : Int) = count) && l.all fun s => within s 0 (states - 1)

theorem any_not {α : Type} (p : α → Bool) (l : List α) : (!l.any fun x => !p x) = l.all p := by
  induction l with
  | nil => rfl
  | cons a l ih => rw [List.any_cons, List.all_cons, Bool.not_or, Bool.not_not, ih]

end Go.Proofs.YteddgooalncfgaaDoor
