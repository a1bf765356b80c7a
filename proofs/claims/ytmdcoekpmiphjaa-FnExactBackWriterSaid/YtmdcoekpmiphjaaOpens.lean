/-
  What the form reads at the laws' parameter types can be read as a Lean value (written by a program of this claim's own, gen_opens.py).
-/
import Derived.Test.YtmdcoekpmiphjaaOpen
import Derived.Test.YtmdcoekpmiphjaaStructs
import Derived.Test.YtmdcoekpmiphjaaRows
namespace Go.Proofs.Ytmdcoekpmiphjaa
open Go.RowKit

theorem opens_sliceT {P : Program} {α : Type} {E : Enc α} {e ty t : TypeId} (h : P.underlying t = some (.slice e)) (he : Opens P E e) (hs : P.cellsOf e = E.size) (hpos : 0 < E.size) : Opens P (sliceE E ty) t :=
  fun H enc w fuel cs x hx => opens_slice h he hs hpos H enc w fuel cs x hx

theorem opens_ints : Opens Try.prog intsE 39   := opens_sliceT Try.underlying39 (opens_int Try.underlying2) (by kernel_rfl) (by decide)

theorem opens_intss : Opens Try.prog intssE 38   := opens_sliceT Try.underlying38 opens_ints (by kernel_rfl) (by decide)

theorem opens_strs : Opens Try.prog strsE 56   := opens_sliceT Try.underlying56 (opens_str Try.underlying9) (by kernel_rfl) (by decide)

theorem opens_strss : Opens Try.prog strssE 30   := opens_sliceT Try.underlying30 opens_strs (by kernel_rfl) (by decide)

theorem opens_rot : Opens Try.prog rotsE 41 :=
  opens_via (fun p => ⟨p.1, p.2.1, p.2.2.1, p.2.2.2⟩) (fun _ => rfl) (opens_struct Try.underlying41 (by kernel_rfl) (.cons (opens_int Try.underlying2) rfl (by kernel_rfl) (.cons (opens_int Try.underlying2) rfl (by kernel_rfl) (.cons opens_intss rfl (by kernel_rfl) (.last opens_ints rfl (by kernel_rfl))))))

end Go.Proofs.Ytmdcoekpmiphjaa
