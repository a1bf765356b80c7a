/-
  The contracts of the laws' own toTurner and szTurner (written by a program of this claim's own, gen_structs.py).
-/
import Derived.Test.YtmdcoekpmiphjaaLMoveSS
namespace Go.Proofs.Ytmdcoekpmiphjaa
open Go.RowKit

/-- No list of it is longer than the laws let by. -/
def okTurner (r : Turner) : Prop := r.moves.length ≤ 1048576 ∧ (∀ x, x ∈ r.moves → x.length ≤ 1048576)

/-- How much of it the laws count. -/
def totTurner (r : Turner) : Nat := (r.moves.length + sumLen r.moves)

theorem ok_of_totTurner {r : Turner} (h : ¬ 1048576 < totTurner r) : okTurner r := by
  unfold totTurner at h
  exact ⟨by omega, fun x hx => by have := sumLen_mem _ _ hx; omega⟩

end Go.Proofs.Ytmdcoekpmiphjaa
