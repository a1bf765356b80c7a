/-
  A sentinel's variable holds a value of an interface.
-/
import Derived.Test.YtodoghidckelcaaGreatDoorRwNK
import Derived.LaidMore
import Derived.Stop.LaidErr
namespace Go.Proofs.YtodoghidckelcaaGreatDoor
open Go.RowKit

theorem star_err : "*" ++ "errors.errorString" = "*errors.errorString" := by decide

/-- A sentinel's variable holds a value of an interface. -/
theorem err_is {n : String} {text : List UInt8} {r : List (String × Go.DataW Unit)} {W : World} {g : Nat} (h : laidMet Tryz.prog ((n, .iface "*errors.errorString" (.ptr (.agg [.lit (.string text)]))) :: r) W)
    (hg : Tryz.prog.globalNamed n = some g) (ht : (Tryz.prog.globals[g]?).map (·.type) = some 72) : ErrIs g W.heap.size W := by
  obtain ⟨a, s, hv, -⟩ := laid_sentinel h hg ht Tryz.underlying72
    (fun u h => typeName_ptr_named (nm := "errors.errorString") (tp := 142) (by rw [star_err]; kernel_rfl) (by kernel_rfl) (by decide) u (by rw [star_err]; exact h))
    Tryz.underlying142 Tryz.underlying144 rfl rfl Tryz.underlying9 (by kernel_rfl) (by kernel_rfl)
  have hc : W.cell? ⟨g, 0, none⟩ = some (.iface 142 (.pointer (some a))) := by simpa using World.var?_cell hg hv 0
  exact ⟨_, .inr ⟨_, _, rfl⟩, fun w' b => (b.cell (World.block_lt_of_cell? W _ hc)).trans hc⟩

end Go.Proofs.YtodoghidckelcaaGreatDoor
