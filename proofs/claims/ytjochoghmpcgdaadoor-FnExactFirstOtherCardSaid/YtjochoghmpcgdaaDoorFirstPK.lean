/-
  Scanning the words length by length, in plain words.
-/
import Derived.Test.YtjochoghmpcgdaaDoorFirstCK
namespace Go.Proofs.YtjochoghmpcgdaaDoor

theorem scanW_app {σ : Type} (step : List UInt8 → σ → σ × Bool) : ∀ (a b : List (List UInt8)) (s : σ), scanW step (a ++ b) s = if (scanW step a s).2 = true then scanW step a s else scanW step b (scanW step a s).1
  | [], b, s => by simp [scanW]
  | x :: r, b, s => by
    rw [List.cons_append, scanW, scanW]
    by_cases h : (step x s).2 = true
    · rw [if_pos h, if_pos h]; simp
    · rw [if_neg h, if_neg h]; exact scanW_app step r b _

/-- The words of the lengths from n on, up to N. -/
def restW (c n N : Nat) : List (List UInt8) := (List.range' n (N + 1 - n)).flatMap (wordsN c)

theorem restW_zero (c N : Nat) : restW c 0 N = allW c N := by
  unfold restW allW
  rw [List.range_eq_range', Nat.sub_zero]

theorem restW_cons (c n N : Nat) (h : n ≤ N) : restW c n N = wordsN c n ++ restW c (n + 1) N := by
  unfold restW
  rw [show N + 1 - n = (N + 1 - (n + 1)) + 1 from by omega, List.range'_succ, List.flatMap_cons]

theorem restW_nil (c N : Nat) : restW c (N + 1) N = [] := by
  unfold restW
  rw [Nat.sub_self]
  rfl

theorem scanO_link (u v : Writer) : ∀ l : List (List UInt8), (scanW (stepO u v) l (6, ⟨#[]⟩)).1 = ((scanO u v l).2, (scanO u v l).1)
  | [] => rfl
  | x :: r => by
    unfold scanW scanO stepO
    by_cases h1 : (writtenT u x).2 = 3 ∨ (writtenT v x).2 = 3
    · simp only [if_pos h1]; rfl
    · simp only [if_neg h1]
      by_cases h2 : writtenT u x ≠ writtenT v x
      · simp only [if_pos h2]; rfl
      · simp only [if_neg h2]
        exact scanO_link u v r

end Go.Proofs.YtjochoghmpcgdaaDoor
