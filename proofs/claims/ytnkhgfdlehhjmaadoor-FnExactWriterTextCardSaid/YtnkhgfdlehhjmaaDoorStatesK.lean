/-
  Contracts of the program's size, isAlphabet and areStates.
-/
import Derived.Test.YtnkhgfdlehhjmaaDoorFuncsK
namespace Go.Proofs.YtnkhgfdlehhjmaaDoor
open Go.RowKit

theorem isAlphabet_any (n : Int) (w : World) : Calls Tryd.prog 73 #[.int .i64 n] w (Gives (.bool (within n 1 3)) w) := by
  go_enter Tryd.func73, Tryd.ntmps73
  go_wp2_with fail
  refine (within_any _ _ _ _).mono ?_
  rintro e w1 ⟨rfl, hbl⟩
  go_wp2
  go_ret
  exact ⟨rfl, hbl⟩

theorem within_is (r : Bool) (n lo hi : Int) (w : World) (h : within n lo hi = r) : Calls Tryd.prog 74 #[.int .i64 n, .int .i64 lo, .int .i64 hi] w (Gives (.bool r) w) := h ▸ within_any n lo hi w

theorem isAlphabet_is (r : Bool) (n : Int) (w : World) (h : within n 1 3 = r) : Calls Tryd.prog 73 #[.int .i64 n] w (Gives (.bool r) w) := h ▸ isAlphabet_any n w

/-- So many numbers, each of them a state. -/
def areStates (l : List Int) (count states : Int) : Bool := decide ((l.length : Int) = count) && l.all fun s => within s 0 (states - 1)

theorem any_not {α : Type} (p : α → Bool) (l : List α) : (!l.any fun x => !p x) = l.all p := by
  induction l with
  | nil => rfl
  | cons a l ih => rw [List.any_cons, List.all_cons, Bool.not_or, Bool.not_not, ih]

end Go.Proofs.YtnkhgfdlehhjmaaDoor
