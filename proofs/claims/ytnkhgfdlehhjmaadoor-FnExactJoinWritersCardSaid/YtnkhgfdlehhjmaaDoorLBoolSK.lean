/-
  Contracts of the laws' own helpers at one slice type (written by a program of this claim's own, gen_leaf.py).
-/
import Derived.Test.YtnkhgfdlehhjmaaDoorRows
import Derived.Test.YtnkhgfdlehhjmaaDoorPackA
namespace Go.Proofs.YtnkhgfdlehhjmaaDoor
open Go.RowKit

theorem info_BoolS : (Tryd.prog.info? 4).map (fun i => (i.zero, i.size, i.bytes)) = some (some (.bool false), 1, 1) := by kernel_rfl

end Go.Proofs.YtnkhgfdlehhjmaaDoor
