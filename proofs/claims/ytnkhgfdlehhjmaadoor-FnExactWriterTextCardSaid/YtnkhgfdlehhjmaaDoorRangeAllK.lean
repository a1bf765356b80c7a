/-
  Plain lemmas on a range of numbers. No program is named here.
-/
import Derived.Test.YtnkhgfdlehhjmaaDoorShapeK
namespace Go.Proofs.YtnkhgfdlehhjmaaDoor

theorem range_all {p : Nat → Bool} {n : Nat} (h : ∀ k, k < n → p k = true) : (List.range n).all p = true := by
  rw [List.all_eq_true]; intro x hx; exact h x (List.mem_range.1 hx)
theorem range_not {p : Nat → Bool} {n k : Nat} (hk : k < n) (h : p k = false) : (List.range n).all p = false := by
  rw [Bool.eq_false_iff]; intro ha; rw [List.all_eq_true] at ha; have := ha k (List.mem_range.2 hk); rw [h] at this; cases this

end Go.Proofs.YtnkhgfdlehhjmaaDoor
