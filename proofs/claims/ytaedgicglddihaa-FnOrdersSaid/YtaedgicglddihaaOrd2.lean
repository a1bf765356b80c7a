/-
  GreatestOrder: the plain functions of the program and of the reference answer alike, a sum at a time, by the kernel (written by a program of this claim's own, gen_ord.py).
-/
import Derived.Test.YtaedgicglddihaaOrdLit
namespace Go.Proofs.Ytaedgicglddihaa

set_option maxRecDepth 10000000 in
theorem ord_38 : (decide (ordImpl 38 = (16380, [4, 5, 7, 9, 13])) && decide (ordSpec 38 = (16380, [4, 5, 7, 9, 13]))) = true := by kernel_rfl

set_option maxRecDepth 10000000 in
theorem ord_39 : (decide (ordImpl 39 = (16380, [4, 5, 7, 9, 13])) && decide (ordSpec 39 = (16380, [4, 5, 7, 9, 13]))) = true := by kernel_rfl

set_option maxRecDepth 10000000 in
theorem ord_40 : (decide (ordImpl 40 = (27720, [5, 7, 8, 9, 11])) && decide (ordSpec 40 = (27720, [5, 7, 8, 9, 11]))) = true := by kernel_rfl

set_option maxRecDepth 10000000 in
theorem ord_41 : (decide (ordImpl 41 = (30030, [2, 3, 5, 7, 11, 13])) && decide (ordSpec 41 = (30030, [2, 3, 5, 7, 11, 13]))) = true := by kernel_rfl

set_option maxRecDepth 10000000 in
theorem ord_42 : (decide (ordImpl 42 = (32760, [5, 7, 8, 9, 13])) && decide (ordSpec 42 = (32760, [5, 7, 8, 9, 13]))) = true := by kernel_rfl

set_option maxRecDepth 10000000 in
theorem ord_43 : (decide (ordImpl 43 = (60060, [3, 4, 5, 7, 11, 13])) && decide (ordSpec 43 = (60060, [3, 4, 5, 7, 11, 13]))) = true := by kernel_rfl

set_option maxRecDepth 10000000 in
theorem ord_44 : (decide (ordImpl 44 = (60060, [3, 4, 5, 7, 11, 13])) && decide (ordSpec 44 = (60060, [3, 4, 5, 7, 11, 13]))) = true := by kernel_rfl

set_option maxRecDepth 10000000 in
theorem ord_45 : (decide (ordImpl 45 = (60060, [3, 4, 5, 7, 11, 13])) && decide (ordSpec 45 = (60060, [3, 4, 5, 7, 11, 13]))) = true := by kernel_rfl

set_option maxRecDepth 10000000 in
theorem ord_46 : (decide (ordImpl 46 = (60060, [3, 4, 5, 7, 11, 13])) && decide (ordSpec 46 = (60060, [3, 4, 5, 7, 11, 13]))) = true := by kernel_rfl

set_option maxRecDepth 10000000 in
theorem ord_47 : (decide (ordImpl 47 = (120120, [3, 5, 7, 8, 11, 13])) && decide (ordSpec 47 = (120120, [3, 5, 7, 8, 11, 13]))) = true := by kernel_rfl

end Go.Proofs.Ytaedgicglddihaa
