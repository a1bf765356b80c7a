/-
  What the form reads at the laws' parameter types can be read as a Lean value (written by a program of this claim's own, gen_opens.py).
-/
import Derived.Test.YtfamhnogpcmbmaaGreatDoorPackA
import Derived.Test.YtfamhnogpcmbmaaGreatDoorRows
namespace Go.Proofs.YtfamhnogpcmbmaaGreatDoor
open Go.RowKit

theorem opens_sliceT {P : Program} {α : Type} {E : Enc α} {e ty t : TypeId} (h : P.underlying t = some (.slice e)) (he : Opens P E e) (hs : P.cellsOf e = E.size) (hpos : 0 < E.size) : Opens P (sliceE E ty) t :=
  fun H enc w fuel cs x hx => opens_slice h he hs hpos H enc w fuel cs x hx

theorem opens_ints : Opens Tryz.prog intsE 92   := opens_sliceT Tryz.underlying92 (opens_int Tryz.underlying2) (by kernel_rfl) (by decide)

theorem opens_strs : Opens Tryz.prog strsE 50   := opens_sliceT Tryz.underlying50 (opens_str Tryz.underlying9) (by kernel_rfl) (by decide)

theorem opens_strss : Opens Tryz.prog strssE 27   := opens_sliceT Tryz.underlying27 opens_strs (by kernel_rfl) (by decide)

end Go.Proofs.YtfamhnogpcmbmaaGreatDoor
