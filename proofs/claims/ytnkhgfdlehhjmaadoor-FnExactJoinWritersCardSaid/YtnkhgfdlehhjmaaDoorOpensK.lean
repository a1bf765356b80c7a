/-
  What the form reads at the laws' parameter types can be read as a Lean value (written by a program of this claim's own, gen_opens.py).
-/
import Derived.Test.YtnkhgfdlehhjmaaDoorPackA
import Derived.Test.YtnkhgfdlehhjmaaDoorRows
namespace Go.Proofs.YtnkhgfdlehhjmaaDoor
open Go.RowKit

theorem opens_sliceT {P : Program} {α : Type} {E : Enc α} {e ty t : TypeId} (h : P.underlying t = some (.slice e)) (he : Opens P E e) (hs : P.cellsOf e = E.size) (hpos : 0 < E.size) : Opens P (sliceE E ty) t :=
  fun H enc w fuel cs x hx => opens_slice h he hs hpos H enc w fuel cs x hx

theorem opens_ints : Opens Tryd.prog intsE 106   := opens_sliceT Tryd.underlying106 (opens_int Tryd.underlying2) (by kernel_rfl) (by decide)

theorem opens_strs : Opens Tryd.prog strsE 47   := opens_sliceT Tryd.underlying47 (opens_str Tryd.underlying9) (by kernel_rfl) (by decide)

theorem opens_strss : Opens Tryd.prog strssE 25   := opens_sliceT Tryd.underlying25 opens_strs (by kernel_rfl) (by decide)

theorem opens_move : Opens Tryd.prog moveE 115 :=
  opens_via (fun p => ⟨p.1, p.2⟩) (fun _ => rfl) (opens_struct Tryd.underlying115 (by kernel_rfl) (.cons (opens_int Tryd.underlying2) rfl (by kernel_rfl) (.last (opens_int Tryd.underlying2) rfl (by kernel_rfl))))

theorem opens_moves : Opens Tryd.prog movesE 95   := opens_sliceT Tryd.underlying95 opens_move (by kernel_rfl) (by decide)

theorem opens_movess : Opens Tryd.prog movessE 22   := opens_sliceT Tryd.underlying22 opens_moves (by kernel_rfl) (by decide)

theorem opens_turn : Opens Tryd.prog turnE 24 :=
  opens_via (fun p => ⟨p.1, p.2.1, p.2.2⟩) (fun _ => rfl) (opens_struct Tryd.underlying24 (by kernel_rfl) (.cons (opens_int Tryd.underlying2) rfl (by kernel_rfl) (.cons (opens_int Tryd.underlying2) rfl (by kernel_rfl) (.last opens_movess rfl (by kernel_rfl)))))

theorem opens_writ : Opens Tryd.prog writE 27 :=
  opens_via (fun p => ⟨p.1, p.2⟩) (fun _ => rfl) (opens_struct Tryd.underlying27 (by kernel_rfl) (.cons opens_turn rfl (by kernel_rfl) (.last opens_strss rfl (by kernel_rfl))))

end Go.Proofs.YtnkhgfdlehhjmaaDoor
