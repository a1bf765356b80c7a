/-
  The program's FirstOther, joined.
-/
import Derived.Test.YtjochoghmpcgdaaDoorFirstMK
namespace Go.Proofs.YtjochoghmpcgdaaDoor
open Go.RowKit

theorem firstOther_any (u v : Writer) (N : Int) (cu cv : List Value) (B : Nat) (w : World) (hB : B ≤ w.heap.size) (hu : writE.rd w B cu u) (hv : writE.rd w B cv v) (T : ByteArray × Int) (hT : firstT u v N = T) :
    Calls Tryd.prog 9 #[.agg cu.toArray, .agg cv.toArray, .int .i64 N] w (TxtIs T w) := by
  unfold firstT at hT
  by_cases h1 : writerOk u = false ∨ writerOk v = false
  · rw [if_pos h1] at hT
    subst hT
    exact first_bad u v N cu cv B w hB hu hv h1
  rw [if_neg h1] at hT
  have hbu : writerOk u = true := by cases h : writerOk u with | true => rfl | false => exact absurd (.inl h) h1
  have hbv : writerOk v = true := by cases h : writerOk v with | true => rfl | false => exact absurd (.inr h) h1
  by_cases h2 : u.turner.letters ≠ v.turner.letters ∨ ¬ (0 ≤ N ∧ N ≤ 60)
  · rw [if_pos h2] at hT
    subst hT
    exact first_two u v N cu cv B w hB hu hv hbu hbv h2
  rw [if_neg h2] at hT
  have h3 : u.turner.letters = v.turner.letters := by
    by_cases h : u.turner.letters = v.turner.letters
    · exact h
    · exact absurd (.inl h) h2
  have h4 : 0 ≤ N ∧ N ≤ 60 := by
    by_cases h : 0 ≤ N ∧ N ≤ 60
    · exact h
    · exact absurd (.inr h) h2
  have K := (writOk_of hbu).t
  have hl1 := K.l1
  obtain ⟨c, hc⟩ : ∃ c : Nat, u.turner.letters = c := ⟨u.turner.letters.toNat, by omega⟩
  obtain ⟨n, rfl⟩ : ∃ n : Nat, N = n := ⟨N.toNat, by omega⟩
  rw [hc, Int.toNat_natCast, Int.toNat_natCast] at hT
  exact first_scan u v n c cu cv B w hB hu hv hbu hbv hc (by rw [← h3, hc]) (by omega) T hT

end Go.Proofs.YtjochoghmpcgdaaDoor
