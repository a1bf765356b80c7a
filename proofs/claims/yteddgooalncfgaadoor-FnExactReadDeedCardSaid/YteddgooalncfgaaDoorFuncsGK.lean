/-
  Contracts of slices.IndexFunc and slices.ContainsFunc at slices of slices (written by a program of this claim's own, gen_funcs.py).
-/
import Derived.Test.YteddgooalncfgaaDoorFuncsK
namespace Go.Proofs.YteddgooalncfgaaDoor
open Go.RowKit

end Go.Proofs.YteddgooalncfgaaDoor
