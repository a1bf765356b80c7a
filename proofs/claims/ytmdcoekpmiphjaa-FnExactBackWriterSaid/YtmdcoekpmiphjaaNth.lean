/-
  The numbers that NthLast.. takes.
-/
import Derived.Test.YtmdcoekpmiphjaaStates
namespace Go.Proofs.Ytmdcoekpmiphjaa
open Go.RowKit

def nthOk (letters n : Int) : Bool := within letters 1 3 && within n 1 8

theorem isNth_any (letters n : Int) (w : World) : Calls Try.prog 23 #[.int .i64 letters, .int .i64 n] w (Gives (.bool (nthOk letters n)) w) := by
  unfold nthOk
  go_enter Try.func23, Try.ntmps23
  go_wp2_with fail
  refine (isAlphabet_any _ _).mono ?_
  rintro e w1 ⟨rfl, b⟩
  cases h : within letters 1 3
  case false =>
    go_wp2
    go_ret
    exact ⟨by rw [h]; rfl, b⟩
  go_wp2_with fail
  refine (within_k _ _ _ _).mono ?_
  rintro e w2 ⟨rfl, rfl⟩
  go_wp2
  go_ret
  exact ⟨by rw [h]; rfl, b⟩

theorem l06Nth_any (letters n : Int) (w : World) : Calls Try.prog 22 #[.int .i64 letters, .int .i64 n] w (Gives (.bool (nthOk letters n)) w) := by
  unfold nthOk
  go_enter Try.func22, Try.ntmps22
  go_wp2_with fail
  refine (l00In_k _ _ _ _).mono ?_
  rintro e w1 ⟨rfl, rfl⟩
  cases h : within letters 1 3
  case false =>
    go_wp2
    go_ret
    exact ⟨by rw [h]; rfl, Below.refl _ _⟩
  go_wp2_with fail
  refine (l00In_k _ _ _ _).mono ?_
  rintro e w2 ⟨rfl, rfl⟩
  go_wp2
  go_ret
  exact ⟨by rw [h]; rfl, Below.refl _ _⟩

end Go.Proofs.Ytmdcoekpmiphjaa
