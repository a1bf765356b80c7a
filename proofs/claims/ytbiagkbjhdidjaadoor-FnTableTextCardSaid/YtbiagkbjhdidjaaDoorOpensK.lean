/-
  What the form reads at the laws' parameter types can be read as a Lean value (written by a program of this claim's own, gen_opens.py).
-/
import Derived.Test.YtbiagkbjhdidjaaDoorOpenK
import Derived.Test.YtbiagkbjhdidjaaDoorStructsK
import Derived.Test.YtbiagkbjhdidjaaDoorRows
namespace Go.Proofs.YtbiagkbjhdidjaaDoor
open Go.RowKit

theorem opens_sliceT {P : Program} {α : Type} {E : Enc α} {e ty t : TypeId} (h : P.underlying t = some (.slice e)) (he : Opens P E e) (hs : P.cellsOf e = E.size) (hpos : 0 < E.size) : Opens P (sliceE E ty) t :=
  fun H enc w fuel cs x hx => opens_slice h he hs hpos H enc w fuel cs x hx

theorem opens_ints : Opens Tryd.prog intsE 58   := opens_sliceT Tryd.underlying58 (opens_int Tryd.underlying2) (by kernel_rfl) (by decide)

theorem opens_strs : Opens Tryd.prog strsE 64   := opens_sliceT Tryd.underlying64 (opens_str Tryd.underlying9) (by kernel_rfl) (by decide)

end Go.Proofs.YtbiagkbjhdidjaaDoor
