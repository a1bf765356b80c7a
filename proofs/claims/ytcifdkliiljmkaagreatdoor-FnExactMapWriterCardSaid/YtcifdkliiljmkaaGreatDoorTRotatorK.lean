/-
  The contracts of the laws' own toRotator and szRotator (written by a program of this claim's own, gen_structs.py).
-/
import Derived.Test.YtcifdkliiljmkaaGreatDoorPackA
import Derived.Test.YtcifdkliiljmkaaGreatDoorLInt64SSK
namespace Go.Proofs.YtcifdkliiljmkaaGreatDoor
open Go.RowKit

/-- No list of it is longer than the laws let by. -/
def okRot (r : Rot) : Prop := r.next.length ≤ 1048576 ∧ (∀ x, x ∈ r.next → x.length ≤ 1048576) ∧ r.fin.length ≤ 1048576

/-- How much of it the laws count. -/
def totRot (r : Rot) : Nat := (r.next.length + sumLen r.next) + (r.fin.length)

theorem ok_of_totRot {r : Rot} (h : ¬ 1048576 < totRot r) : okRot r := by
  unfold totRot at h
  exact ⟨by omega, fun x hx => by have := sumLen_mem _ _ hx; omega, by omega⟩

end Go.Proofs.YtcifdkliiljmkaaGreatDoor
