/-
  What the form reads at the laws' parameter types can be read as a Lean value.
-/
import Derived.Test.YtciclhklljdlgaaOpen
import Derived.Test.YtciclhklljdlgaaStructs
import Derived.Test.YtciclhklljdlgaaDeed
namespace Go.Proofs.Ytciclhklljdlgaa
open Go.RowKit

theorem opens_ints : Opens Try.prog intsE 28 := opens_slice Try.underlying28 (opens_int Try.underlying2) (by kernel_rfl) (by decide)
theorem opens_deed : Opens Try.prog deedE 23 :=
  opens_via (fun p => ⟨p.1, p.2.1, p.2.2⟩) (fun _ => rfl) (opens_struct Try.underlying23 (by kernel_rfl)
    (.cons (opens_int Try.underlying2) rfl (by kernel_rfl) (.cons (opens_int Try.underlying2) rfl (by kernel_rfl) (.last (opens_int Try.underlying2) rfl (by kernel_rfl)))))

end Go.Proofs.Ytciclhklljdlgaa
