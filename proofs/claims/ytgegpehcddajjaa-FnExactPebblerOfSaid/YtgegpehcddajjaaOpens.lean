/-
  What the form reads at the laws' parameter types can be read as a Lean value (written by a program of this claim's own, gen_opens.py).
-/
import Derived.Test.YtgegpehcddajjaaOpen
import Derived.Test.YtgegpehcddajjaaStructs
import Derived.Test.YtgegpehcddajjaaRows
namespace Go.Proofs.Ytgegpehcddajjaa
open Go.RowKit

theorem opens_sliceT {P : Program} {α : Type} {E : Enc α} {e ty t : TypeId} (h : P.underlying t = some (.slice e)) (he : Opens P E e) (hs : P.cellsOf e = E.size) (hpos : 0 < E.size) : Opens P (sliceE E ty) t :=
  fun H enc w fuel cs x hx => opens_slice h he hs hpos H enc w fuel cs x hx

theorem opens_move : Opens Try.prog moveE 91 :=
  opens_via (fun p => ⟨p.1, p.2⟩) (fun _ => rfl) (opens_struct Try.underlying91 (by kernel_rfl) (.cons (opens_int Try.underlying2) rfl (by kernel_rfl) (.last (opens_int Try.underlying2) rfl (by kernel_rfl))))

theorem opens_pmove : Opens Try.prog pmoveE 88 :=
  opens_via (fun p => ⟨p.1, p.2.1, p.2.2⟩) (fun _ => rfl) (opens_struct Try.underlying88 (by kernel_rfl) (.cons (opens_int Try.underlying2) rfl (by kernel_rfl) (.cons (opens_int Try.underlying2) rfl (by kernel_rfl) (.last (opens_int Try.underlying2) rfl (by kernel_rfl)))))

theorem opens_moves : Opens Try.prog movesE 78   := opens_sliceT Try.underlying78 opens_move (by kernel_rfl) (by decide)

theorem opens_movess : Opens Try.prog movessE 34   := opens_sliceT Try.underlying34 opens_moves (by kernel_rfl) (by decide)

theorem opens_pmoves : Opens Try.prog pmovesE 73   := opens_sliceT Try.underlying73 opens_pmove (by kernel_rfl) (by decide)

theorem opens_pmovess : Opens Try.prog pmovessE 22   := opens_sliceT Try.underlying22 opens_pmoves (by kernel_rfl) (by decide)

theorem opens_turn : Opens Try.prog turnE 36 :=
  opens_via (fun p => ⟨p.1, p.2.1, p.2.2⟩) (fun _ => rfl) (opens_struct Try.underlying36 (by kernel_rfl) (.cons (opens_int Try.underlying2) rfl (by kernel_rfl) (.cons (opens_int Try.underlying2) rfl (by kernel_rfl) (.last opens_movess rfl (by kernel_rfl)))))

theorem opens_peb : Opens Try.prog pebE 24 :=
  opens_via (fun p => ⟨p.1, p.2.1, p.2.2⟩) (fun _ => rfl) (opens_struct Try.underlying24 (by kernel_rfl) (.cons (opens_int Try.underlying2) rfl (by kernel_rfl) (.cons (opens_int Try.underlying2) rfl (by kernel_rfl) (.last opens_pmovess rfl (by kernel_rfl)))))

end Go.Proofs.Ytgegpehcddajjaa
