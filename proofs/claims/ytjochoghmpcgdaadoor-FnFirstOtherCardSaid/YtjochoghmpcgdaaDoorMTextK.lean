/-
  The laws' own markText: a text that hangs on its number alone.
-/
import Derived.Test.YtjochoghmpcgdaaDoorPackA
import Derived.Test.YtjochoghmpcgdaaDoorPackB
import Derived.Laws.IdiomStrings
namespace Go.Proofs.YtjochoghmpcgdaaDoor
open Go.RowKit

def mtLoop (q : Nat) (out : ByteArray) : ByteArray := if h : q = 0 then out else mtLoop (q / 10) (⟨#[UInt8.ofNat (48 + q % 10)]⟩ ++ out)
termination_by q
decreasing_by omega

/-- The text of a number above 0. -/
def mText (k : Int) : ByteArray := ⟨#[109]⟩ ++ mtLoop k.toNat ⟨#[]⟩

theorem mtLoop_zero (out : ByteArray) : mtLoop 0 out = out := by rw [mtLoop]; rfl
theorem mtLoop_pos {q : Nat} (h : 0 < q) (out : ByteArray) : mtLoop q out = mtLoop (q / 10) (⟨#[UInt8.ofNat (48 + q % 10)]⟩ ++ out) := by rw [mtLoop, dif_neg (by omega)]

theorem ten_pow {q s K : Nat} (hq : 0 < q) (h : q * 10 ^ s ≤ K) (hK : K ≤ 4611686018427387904) : s ≤ 18 := by
  refine Nat.le_of_not_lt fun hs => ?_
  have h1 : 10 ^ 19 ≤ 10 ^ s := Nat.pow_le_pow_right (by omega) hs
  have h2 : 10 ^ s ≤ q * 10 ^ s := Nat.le_mul_of_pos_left _ hq
  omega

end Go.Proofs.YtjochoghmpcgdaaDoor
