/-
  Contracts of the laws' own helpers at one slice type (written by a program of this claim's own, gen_leaf.py).
-/
import Derived.Test.YtbiagkbjhdidjaaDoorRows
import Derived.Test.YtbiagkbjhdidjaaDoorLeafAK
namespace Go.Proofs.YtbiagkbjhdidjaaDoor
open Go.RowKit

theorem info_Int64S : (Tryd.prog.info? 2).map (fun i => (i.zero, i.size, i.bytes)) = some (some (.int .i64 0), 1, 8) := by kernel_rfl

end Go.Proofs.YtbiagkbjhdidjaaDoor
