/-
  What the form reads at the laws' parameter types can be read as a Lean value (written by a program of this claim's own, gen_opens.py).
-/
import Derived.Test.YtaedgicglddihaaOpen
import Derived.Test.YtaedgicglddihaaStructs
import Derived.Test.YtaedgicglddihaaRows
namespace Go.Proofs.Ytaedgicglddihaa
open Go.RowKit

theorem opens_sliceT {P : Program} {α : Type} {E : Enc α} {e ty t : TypeId} (h : P.underlying t = some (.slice e)) (he : Opens P E e) (hs : P.cellsOf e = E.size) (hpos : 0 < E.size) : Opens P (sliceE E ty) t :=
  fun H enc w fuel cs x hx => opens_slice h he hs hpos H enc w fuel cs x hx

theorem opens_ints : Opens Try.prog intsE 22   := opens_sliceT Try.underlying22 (opens_int Try.underlying2) (by kernel_rfl) (by decide)

theorem opens_intss : Opens Try.prog intssE 34   := opens_sliceT Try.underlying34 opens_ints (by kernel_rfl) (by decide)

end Go.Proofs.Ytaedgicglddihaa
