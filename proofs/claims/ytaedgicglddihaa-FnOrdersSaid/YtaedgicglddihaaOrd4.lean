/-
  GreatestOrder: the plain functions of the program and of the reference answer alike, a sum at a time, by the kernel (written by a program of this claim's own, gen_ord.py).
-/
import Derived.Test.YtaedgicglddihaaOrdLit
namespace Go.Proofs.Ytaedgicglddihaa

set_option maxRecDepth 10000000 in
theorem ord_55 : (decide (ordImpl 55 = (360360, [5, 7, 8, 9, 11, 13])) && decide (ordSpec 55 = (360360, [5, 7, 8, 9, 11, 13]))) = true := by kernel_rfl

set_option maxRecDepth 10000000 in
theorem ord_56 : (decide (ordImpl 56 = (360360, [5, 7, 8, 9, 11, 13])) && decide (ordSpec 56 = (360360, [5, 7, 8, 9, 11, 13]))) = true := by kernel_rfl

set_option maxRecDepth 10000000 in
theorem ord_57 : (decide (ordImpl 57 = (471240, [5, 7, 8, 9, 11, 17])) && decide (ordSpec 57 = (471240, [5, 7, 8, 9, 11, 17]))) = true := by kernel_rfl

set_option maxRecDepth 10000000 in
theorem ord_58 : (decide (ordImpl 58 = (510510, [2, 3, 5, 7, 11, 13, 17])) && decide (ordSpec 58 = (510510, [2, 3, 5, 7, 11, 13, 17]))) = true := by kernel_rfl

set_option maxRecDepth 10000000 in
theorem ord_59 : (decide (ordImpl 59 = (556920, [5, 7, 8, 9, 13, 17])) && decide (ordSpec 59 = (556920, [5, 7, 8, 9, 13, 17]))) = true := by kernel_rfl

set_option maxRecDepth 10000000 in
theorem ord_60 : (decide (ordImpl 60 = (1021020, [3, 4, 5, 7, 11, 13, 17])) && decide (ordSpec 60 = (1021020, [3, 4, 5, 7, 11, 13, 17]))) = true := by kernel_rfl

end Go.Proofs.Ytaedgicglddihaa
