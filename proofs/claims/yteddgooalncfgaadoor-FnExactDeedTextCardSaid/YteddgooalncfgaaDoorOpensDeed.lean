/-
  What the form reads at the laws' type of a deed can be read as a Lean value.
-/
import Derived.Test.YteddgooalncfgaaDoorOpens
import Derived.Test.YteddgooalncfgaaDoorDeed
namespace Go.Proofs.YteddgooalncfgaaDoor
open Go.RowKit

theorem opens_deed : Opens Tryd.prog deedE 23 :=
  opens_via (fun p => ⟨p.1, p.2.1, p.2.2⟩) (fun _ => rfl) (opens_struct Tryd.underlying23 (by kernel_rfl)
    (.cons (opens_int Tryd.underlying2) rfl (by kernel_rfl) (.cons (opens_int Tryd.underlying2) rfl (by kernel_rfl) (.last (opens_int Tryd.underlying2) rfl (by kernel_rfl)))))

end Go.Proofs.YteddgooalncfgaaDoor
