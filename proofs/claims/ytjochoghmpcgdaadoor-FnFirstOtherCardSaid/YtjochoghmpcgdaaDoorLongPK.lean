/-
  LongestWritten of the specification: the scan of all words is the scan of those of the length, in plain words.
-/
import Derived.Test.YtjochoghmpcgdaaDoorLongBK
import Derived.Test.YtjochoghmpcgdaaDoorSAllWK
namespace Go.Proofs.YtjochoghmpcgdaaDoor
open Go.RowKit

def scanS (u : Writer) (N : Nat) : List (List UInt8) → Int × ByteArray → Bool × Int × ByteArray
  | [], s => (false, s)
  | x :: r, s => if x.length ≠ N then scanS u N r s else if (writtenT u x).2 = 3 then (true, s) else if (writtenT u x).2 = 0 ∧ s.1 < ((writtenT u x).1.size : Int) then scanS u N r (((writtenT u x).1.size : Int), ⟨x.toArray⟩) else scanS u N r s

theorem scanS_skip (u : Writer) (N : Nat) (b : List (List UInt8)) (s : Int × ByteArray) : ∀ a : List (List UInt8), (∀ x, x ∈ a → x.length ≠ N) → scanS u N (a ++ b) s = scanS u N b s
  | [], _ => rfl
  | x :: r, h => by
    rw [List.cons_append, scanS, if_pos (h x (by simp))]
    exact scanS_skip u N b s r (fun y hy => h y (by simp [hy]))

theorem scanS_link (u : Writer) (N : Nat) : ∀ (l : List (List UInt8)) (s : Int × ByteArray), (∀ x, x ∈ l → x.length = N) → scanS u N l s = (scanW (stepL u) l (false, s)).1
  | [], s, _ => rfl
  | x :: r, s, h => by
    have ih := fun s => scanS_link u N r s (fun y hy => h y (by simp [hy]))
    unfold scanS scanW stepL
    rw [if_neg (by rw [h x (by simp)]; simp)]
    by_cases h1 : (writtenT u x).2 = 3
    · simp only [if_pos h1]; rfl
    · simp only [if_neg h1]
      by_cases h2 : (writtenT u x).2 = 0 ∧ s.1 < ((writtenT u x).1.size : Int)
      · simp only [if_pos h2]
        exact ih _
      · simp only [if_neg h2]
        exact ih _

theorem longS_eq (u : Writer) (c N : Nat) (hc : c ≤ 3) : scanS u N (allW c N) (-1, ⟨#[]⟩) = (scanW (stepL u) (wordsN c N) (false, -1, ⟨#[]⟩)).1 := by
  cases N with
  | zero => exact scanS_link u 0 _ _ (fun x hx => (wordsN_ok c hc 0 x hx).2)
  | succ N =>
    rw [allW_succ, scanS_skip]
    · exact scanS_link u (N + 1) _ _ (fun x hx => (wordsN_ok c hc (N + 1) x hx).2)
    · intro x hx
      unfold allW at hx
      obtain ⟨n, hn, hx⟩ := List.mem_flatMap.1 hx
      have := List.mem_range.1 hn
      rw [(wordsN_ok c hc n x hx).2]
      omega

theorem allW_ok (c N : Nat) (hc : c ≤ 3) (x : List UInt8) (hx : x ∈ allW c N) : wordOk c x ∧ x.length ≤ N := by
  unfold allW at hx
  obtain ⟨n, hn, hx⟩ := List.mem_flatMap.1 hx
  have := List.mem_range.1 hn
  obtain ⟨h1, h2⟩ := wordsN_ok c hc n x hx
  exact ⟨h1, by omega⟩

end Go.Proofs.YtjochoghmpcgdaaDoor
