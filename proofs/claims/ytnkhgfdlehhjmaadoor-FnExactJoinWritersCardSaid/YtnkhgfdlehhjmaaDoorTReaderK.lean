/-
  The contracts of the laws' own toReader and szReader (written by a program of this claim's own, gen_structs.py).
-/
import Derived.Test.YtnkhgfdlehhjmaaDoorLBoolSK
import Derived.Test.YtnkhgfdlehhjmaaDoorLInt64SSK
namespace Go.Proofs.YtnkhgfdlehhjmaaDoor
open Go.RowKit

/-- No list of it is longer than the laws let by. -/
def okReader (r : Reader) : Prop := r.accept.length ≤ 1048576 ∧ r.next.length ≤ 1048576 ∧ (∀ x, x ∈ r.next → x.length ≤ 1048576)

/-- How much of it the laws count. -/
def totReader (r : Reader) : Nat := (r.accept.length) + (r.next.length + sumLen r.next)

theorem ok_of_totReader {r : Reader} (h : ¬ 1048576 < totReader r) : okReader r := by
  unfold totReader at h
  exact ⟨by omega, by omega, fun x hx => by have := sumLen_mem _ _ hx; omega⟩

end Go.Proofs.YtnkhgfdlehhjmaaDoor
