/-
  What the form reads at the laws' parameter types can be read as a Lean value (written by a program of this claim's own, gen_opens.py).
-/
import Derived.Test.YtcifdkliiljmkaaGreatDoorPackA
import Derived.Test.YtcifdkliiljmkaaGreatDoorRows
namespace Go.Proofs.YtcifdkliiljmkaaGreatDoor
open Go.RowKit

theorem opens_sliceT {P : Program} {α : Type} {E : Enc α} {e ty t : TypeId} (h : P.underlying t = some (.slice e)) (he : Opens P E e) (hs : P.cellsOf e = E.size) (hpos : 0 < E.size) : Opens P (sliceE E ty) t :=
  fun H enc w fuel cs x hx => opens_slice h he hs hpos H enc w fuel cs x hx

theorem opens_ints : Opens Tryz.prog intsE 89   := opens_sliceT Tryz.underlying89 (opens_int Tryz.underlying2) (by kernel_rfl) (by decide)

theorem opens_intss : Opens Tryz.prog intssE 29   := opens_sliceT Tryz.underlying29 opens_ints (by kernel_rfl) (by decide)

theorem opens_bools : Opens Tryz.prog boolsE 28   := opens_sliceT Tryz.underlying28 (opens_bool Tryz.underlying4) (by kernel_rfl) (by decide)

theorem opens_strs : Opens Tryz.prog strsE 51   := opens_sliceT Tryz.underlying51 (opens_str Tryz.underlying9) (by kernel_rfl) (by decide)

theorem opens_strss : Opens Tryz.prog strssE 25   := opens_sliceT Tryz.underlying25 opens_strs (by kernel_rfl) (by decide)

theorem opens_move : Opens Tryz.prog moveE 152 :=
  opens_via (fun p => ⟨p.1, p.2⟩) (fun _ => rfl) (opens_struct Tryz.underlying152 (by kernel_rfl) (.cons (opens_int Tryz.underlying2) rfl (by kernel_rfl) (.last (opens_int Tryz.underlying2) rfl (by kernel_rfl))))

theorem opens_moves : Opens Tryz.prog movesE 129   := opens_sliceT Tryz.underlying129 opens_move (by kernel_rfl) (by decide)

theorem opens_movess : Opens Tryz.prog movessE 22   := opens_sliceT Tryz.underlying22 opens_moves (by kernel_rfl) (by decide)

theorem opens_read : Opens Tryz.prog readE 31 :=
  opens_via (fun p => ⟨p.1, p.2.1, p.2.2.1, p.2.2.2⟩) (fun _ => rfl) (opens_struct Tryz.underlying31 (by kernel_rfl) (.cons (opens_int Tryz.underlying2) rfl (by kernel_rfl) (.cons (opens_int Tryz.underlying2) rfl (by kernel_rfl) (.cons opens_bools rfl (by kernel_rfl) (.last opens_intss rfl (by kernel_rfl))))))

theorem opens_turn : Opens Tryz.prog turnE 24 :=
  opens_via (fun p => ⟨p.1, p.2.1, p.2.2⟩) (fun _ => rfl) (opens_struct Tryz.underlying24 (by kernel_rfl) (.cons (opens_int Tryz.underlying2) rfl (by kernel_rfl) (.cons (opens_int Tryz.underlying2) rfl (by kernel_rfl) (.last opens_movess rfl (by kernel_rfl)))))

theorem opens_writ : Opens Tryz.prog writE 27 :=
  opens_via (fun p => ⟨p.1, p.2⟩) (fun _ => rfl) (opens_struct Tryz.underlying27 (by kernel_rfl) (.cons opens_turn rfl (by kernel_rfl) (.last opens_strss rfl (by kernel_rfl))))

end Go.Proofs.YtcifdkliiljmkaaGreatDoor
