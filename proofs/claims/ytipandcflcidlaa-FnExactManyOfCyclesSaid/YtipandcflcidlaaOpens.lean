/-
  What the form reads at the laws' parameter types can be read as a Lean value (written by a program of this claim's own, gen_opens.py).
-/
import Derived.Test.YtipandcflcidlaaOpen
import Derived.Test.YtipandcflcidlaaStructs
import Derived.Test.YtipandcflcidlaaRows
namespace Go.Proofs.Ytipandcflcidlaa
open Go.RowKit

theorem opens_sliceT {P : Program} {α : Type} {E : Enc α} {e ty t : TypeId} (h : P.underlying t = some (.slice e)) (he : Opens P E e) (hs : P.cellsOf e = E.size) (hpos : 0 < E.size) : Opens P (sliceE E ty) t :=
  fun H enc w fuel cs x hx => opens_slice h he hs hpos H enc w fuel cs x hx

theorem opens_ints : Opens Try.prog intsE 34   := opens_sliceT Try.underlying34 (opens_int Try.underlying2) (by kernel_rfl) (by decide)

theorem opens_intss : Opens Try.prog intssE 23   := opens_sliceT Try.underlying23 opens_ints (by kernel_rfl) (by decide)

theorem opens_intsss : Opens Try.prog intsssE 35   := opens_sliceT Try.underlying35 opens_intss (by kernel_rfl) (by decide)

theorem opens_bools : Opens Try.prog boolsE 22   := opens_sliceT Try.underlying22 (opens_bool Try.underlying4) (by kernel_rfl) (by decide)

theorem opens_boolss : Opens Try.prog boolssE 43   := opens_sliceT Try.underlying43 opens_bools (by kernel_rfl) (by decide)

end Go.Proofs.Ytipandcflcidlaa
