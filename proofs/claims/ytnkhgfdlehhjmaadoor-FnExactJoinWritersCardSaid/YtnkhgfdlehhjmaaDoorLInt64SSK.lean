/-
  Contracts of the laws' own helpers at one slice type (written by a program of this claim's own, gen_leaf.py).
-/
import Derived.Test.YtnkhgfdlehhjmaaDoorPackA
namespace Go.Proofs.YtnkhgfdlehhjmaaDoor
open Go.RowKit

theorem info_Int64SS : (Tryd.prog.info? 106).map (fun i => (i.zero, i.size, i.bytes)) = some (some (.slice none 0 0), 1, 24) := by kernel_rfl

end Go.Proofs.YtnkhgfdlehhjmaaDoor
