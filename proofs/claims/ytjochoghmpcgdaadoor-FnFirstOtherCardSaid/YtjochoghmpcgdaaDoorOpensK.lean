/-
  What the form reads at the laws' parameter types can be read as a Lean value (written by a program of this claim's own, gen_opens.py).
-/
import Derived.Test.YtjochoghmpcgdaaDoorPackA
import Derived.Test.YtjochoghmpcgdaaDoorRows
namespace Go.Proofs.YtjochoghmpcgdaaDoor
open Go.RowKit

theorem opens_sliceT {P : Program} {α : Type} {E : Enc α} {e ty t : TypeId} (h : P.underlying t = some (.slice e)) (he : Opens P E e) (hs : P.cellsOf e = E.size) (hpos : 0 < E.size) : Opens P (sliceE E ty) t :=
  fun H enc w fuel cs x hx => opens_slice h he hs hpos H enc w fuel cs x hx

theorem opens_ints : Opens Tryd.prog intsE 56   := opens_sliceT Tryd.underlying56 (opens_int Tryd.underlying2) (by kernel_rfl) (by decide)

theorem opens_strs : Opens Tryd.prog strsE 36   := opens_sliceT Tryd.underlying36 (opens_str Tryd.underlying9) (by kernel_rfl) (by decide)

theorem opens_strss : Opens Tryd.prog strssE 28   := opens_sliceT Tryd.underlying28 opens_strs (by kernel_rfl) (by decide)

theorem opens_move : Opens Tryd.prog moveE 155 :=
  opens_via (fun p => ⟨p.1, p.2⟩) (fun _ => rfl) (opens_struct Tryd.underlying155 (by kernel_rfl) (.cons (opens_int Tryd.underlying2) rfl (by kernel_rfl) (.last (opens_int Tryd.underlying2) rfl (by kernel_rfl))))

theorem opens_moves : Opens Tryd.prog movesE 137   := opens_sliceT Tryd.underlying137 opens_move (by kernel_rfl) (by decide)

theorem opens_movess : Opens Tryd.prog movessE 39   := opens_sliceT Tryd.underlying39 opens_moves (by kernel_rfl) (by decide)

theorem opens_turn : Opens Tryd.prog turnE 41 :=
  opens_via (fun p => ⟨p.1, p.2.1, p.2.2⟩) (fun _ => rfl) (opens_struct Tryd.underlying41 (by kernel_rfl) (.cons (opens_int Tryd.underlying2) rfl (by kernel_rfl) (.cons (opens_int Tryd.underlying2) rfl (by kernel_rfl) (.last opens_movess rfl (by kernel_rfl)))))

theorem opens_writ : Opens Tryd.prog writE 43 :=
  opens_via (fun p => ⟨p.1, p.2⟩) (fun _ => rfl) (opens_struct Tryd.underlying43 (by kernel_rfl) (.cons opens_turn rfl (by kernel_rfl) (.last opens_strss rfl (by kernel_rfl))))

end Go.Proofs.YtjochoghmpcgdaaDoor
