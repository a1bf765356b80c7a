/-
  The laws' own markStringS and heldStringS (written by a program of this claim's own, gen_mstrs.py).
-/
import Derived.Test.YtjochoghmpcgdaaDoorMTextK
import Derived.Test.YtjochoghmpcgdaaDoorPackA
namespace Go.Proofs.YtjochoghmpcgdaaDoor
open Go.RowKit

def strsM : Mk (List ByteArray) := ⟨fun l k => ∀ i, i < l.length → l[i]?.getD ByteArray.empty = mText (k + i), List.length⟩

theorem mtLoop_size (K : Nat) (hK : K ≤ 4611686018427387904) : ∀ n q out, q ≤ n → out.size ≤ 19 → (0 < q → q * 10 ^ out.size ≤ K) → (mtLoop q out).size ≤ 19 := by
  intro n
  induction n with
  | zero => intro q out hq hs _; obtain rfl : q = 0 := by omega
            rw [mtLoop_zero]; exact hs
  | succ n ih =>
    intro q out hq hs hp
    by_cases h : 0 < q
    · have h18 := ten_pow h (hp h) hK
      rw [mtLoop_pos h]
      have hsz : ((⟨#[UInt8.ofNat (48 + q % 10)]⟩ : ByteArray) ++ out).size = out.size + 1 := by rw [ByteArray.size_append]; exact Nat.add_comm _ _
      refine ih _ _ (by omega) (by rw [hsz]; omega) (fun _ => ?_)
      rw [hsz, Nat.pow_succ, Nat.mul_comm (10 ^ out.size) 10, ← Nat.mul_assoc]
      exact Nat.le_trans (Nat.mul_le_mul_right _ (by omega)) (hp h)
    · obtain rfl : q = 0 := by omega
      rw [mtLoop_zero]; exact hs

theorem mText_size (k : Int) (hk : 0 < k) (hk2 : k ≤ 4611686018427387904) : (mText k).size ≤ 20 := by
  unfold mText
  have := mtLoop_size k.toNat (by omega) k.toNat k.toNat ⟨#[]⟩ (Nat.le_refl _) (by decide) (fun _ => by rw [show (ByteArray.mk #[]).size = 0 from rfl]; omega)
  have h1 : (ByteArray.mk #[109]).size = 1 := rfl
  rw [ByteArray.size_append, h1]
  omega

end Go.Proofs.YtjochoghmpcgdaaDoor
