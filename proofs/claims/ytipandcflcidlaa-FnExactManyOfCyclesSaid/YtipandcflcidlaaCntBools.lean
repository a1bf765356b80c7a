/-
  Plain lemmas: how many marks a slice of slices of Booleans bears, by its size. No program is named here.
-/
import Derived.Test.YtipandcflcidlaaMBoolSS
namespace Go.Proofs.Ytipandcflcidlaa
open Go.RowKit

theorem cntL_bools (l : List (List Bool)) : cntL boolsM l = sumLen l := rfl

theorem sizes_of_tot {l : List (List Bool)} (h : l.length + sumLen l ≤ 1048576) : l.length ≤ 1048576 ∧ ∀ x, x ∈ l → x.length ≤ 1048576 :=
  ⟨by omega, fun x hx => by have := sumLen_mem l x hx; omega⟩

end Go.Proofs.Ytipandcflcidlaa
