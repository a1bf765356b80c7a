/-
  What the form reads at the laws' parameter types can be read as a Lean value (written by a program of this claim's own, gen_opens.py).
-/
import Derived.Test.YtmbecaiieibcjaaOpen
import Derived.Test.YtmbecaiieibcjaaStructs
import Derived.Test.YtmbecaiieibcjaaRows
namespace Go.Proofs.Ytmbecaiieibcjaa
open Go.RowKit

theorem opens_sliceT {P : Program} {α : Type} {E : Enc α} {e ty t : TypeId} (h : P.underlying t = some (.slice e)) (he : Opens P E e) (hs : P.cellsOf e = E.size) (hpos : 0 < E.size) : Opens P (sliceE E ty) t :=
  fun H enc w fuel cs x hx => opens_slice h he hs hpos H enc w fuel cs x hx

theorem opens_ints : Opens Try.prog intsE 67   := opens_sliceT Try.underlying67 (opens_int Try.underlying2) (by kernel_rfl) (by decide)

theorem opens_intss : Opens Try.prog intssE 38   := opens_sliceT Try.underlying38 opens_ints (by kernel_rfl) (by decide)

theorem opens_bools : Opens Try.prog boolsE 37   := opens_sliceT Try.underlying37 (opens_bool Try.underlying4) (by kernel_rfl) (by decide)

theorem opens_strs : Opens Try.prog strsE 51   := opens_sliceT Try.underlying51 (opens_str Try.underlying9) (by kernel_rfl) (by decide)

theorem opens_strss : Opens Try.prog strssE 25   := opens_sliceT Try.underlying25 opens_strs (by kernel_rfl) (by decide)

theorem opens_move : Opens Try.prog moveE 111 :=
  opens_via (fun p => ⟨p.1, p.2⟩) (fun _ => rfl) (opens_struct Try.underlying111 (by kernel_rfl) (.cons (opens_int Try.underlying2) rfl (by kernel_rfl) (.last (opens_int Try.underlying2) rfl (by kernel_rfl))))

theorem opens_moves : Opens Try.prog movesE 100   := opens_sliceT Try.underlying100 opens_move (by kernel_rfl) (by decide)

theorem opens_movess : Opens Try.prog movessE 22   := opens_sliceT Try.underlying22 opens_moves (by kernel_rfl) (by decide)

theorem opens_read : Opens Try.prog readE 40 :=
  opens_via (fun p => ⟨p.1, p.2.1, p.2.2.1, p.2.2.2⟩) (fun _ => rfl) (opens_struct Try.underlying40 (by kernel_rfl) (.cons (opens_int Try.underlying2) rfl (by kernel_rfl) (.cons (opens_int Try.underlying2) rfl (by kernel_rfl) (.cons opens_bools rfl (by kernel_rfl) (.last opens_intss rfl (by kernel_rfl))))))

theorem opens_turn : Opens Try.prog turnE 24 :=
  opens_via (fun p => ⟨p.1, p.2.1, p.2.2⟩) (fun _ => rfl) (opens_struct Try.underlying24 (by kernel_rfl) (.cons (opens_int Try.underlying2) rfl (by kernel_rfl) (.cons (opens_int Try.underlying2) rfl (by kernel_rfl) (.last opens_movess rfl (by kernel_rfl)))))

theorem opens_writ : Opens Try.prog writE 27 :=
  opens_via (fun p => ⟨p.1, p.2⟩) (fun _ => rfl) (opens_struct Try.underlying27 (by kernel_rfl) (.cons opens_turn rfl (by kernel_rfl) (.last opens_strss rfl (by kernel_rfl))))

end Go.Proofs.Ytmbecaiieibcjaa
