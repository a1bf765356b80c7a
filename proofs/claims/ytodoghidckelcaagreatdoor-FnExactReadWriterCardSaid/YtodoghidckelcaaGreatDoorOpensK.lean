/-
  What the form reads at the laws' parameter types can be read as a Lean value (written by a program of this claim's own, gen_opens.py).
-/
import Derived.Test.YtodoghidckelcaaGreatDoorPackA
import Derived.Test.YtodoghidckelcaaGreatDoorRows
namespace Go.Proofs.YtodoghidckelcaaGreatDoor
open Go.RowKit

theorem opens_sliceT {P : Program} {α : Type} {E : Enc α} {e ty t : TypeId} (h : P.underlying t = some (.slice e)) (he : Opens P E e) (hs : P.cellsOf e = E.size) (hpos : 0 < E.size) : Opens P (sliceE E ty) t :=
  fun H enc w fuel cs x hx => opens_slice h he hs hpos H enc w fuel cs x hx

theorem opens_ints : Opens Tryz.prog intsE 49   := opens_sliceT Tryz.underlying49 (opens_int Tryz.underlying2) (by kernel_rfl) (by decide)

theorem opens_strs : Opens Tryz.prog strsE 33   := opens_sliceT Tryz.underlying33 (opens_str Tryz.underlying9) (by kernel_rfl) (by decide)

theorem opens_strss : Opens Tryz.prog strssE 25   := opens_sliceT Tryz.underlying25 opens_strs (by kernel_rfl) (by decide)

end Go.Proofs.YtodoghidckelcaaGreatDoor
