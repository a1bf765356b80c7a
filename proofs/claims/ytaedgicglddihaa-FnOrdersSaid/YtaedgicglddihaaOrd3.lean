/-
  GreatestOrder: the plain functions of the program and of the reference answer alike, a sum at a time, by the kernel (written by a program of this claim's own, gen_ord.py).
-/
import Derived.Test.YtaedgicglddihaaOrdLit
namespace Go.Proofs.Ytaedgicglddihaa

set_option maxRecDepth 10000000 in
theorem ord_48 : (decide (ordImpl 48 = (120120, [3, 5, 7, 8, 11, 13])) && decide (ordSpec 48 = (120120, [3, 5, 7, 8, 11, 13]))) = true := by kernel_rfl

set_option maxRecDepth 10000000 in
theorem ord_49 : (decide (ordImpl 49 = (180180, [4, 5, 7, 9, 11, 13])) && decide (ordSpec 49 = (180180, [4, 5, 7, 9, 11, 13]))) = true := by kernel_rfl

set_option maxRecDepth 10000000 in
theorem ord_50 : (decide (ordImpl 50 = (180180, [4, 5, 7, 9, 11, 13])) && decide (ordSpec 50 = (180180, [4, 5, 7, 9, 11, 13]))) = true := by kernel_rfl

set_option maxRecDepth 10000000 in
theorem ord_51 : (decide (ordImpl 51 = (180180, [4, 5, 7, 9, 11, 13])) && decide (ordSpec 51 = (180180, [4, 5, 7, 9, 11, 13]))) = true := by kernel_rfl

set_option maxRecDepth 10000000 in
theorem ord_52 : (decide (ordImpl 52 = (180180, [4, 5, 7, 9, 11, 13])) && decide (ordSpec 52 = (180180, [4, 5, 7, 9, 11, 13]))) = true := by kernel_rfl

set_option maxRecDepth 10000000 in
theorem ord_53 : (decide (ordImpl 53 = (360360, [5, 7, 8, 9, 11, 13])) && decide (ordSpec 53 = (360360, [5, 7, 8, 9, 11, 13]))) = true := by kernel_rfl

set_option maxRecDepth 10000000 in
theorem ord_54 : (decide (ordImpl 54 = (360360, [5, 7, 8, 9, 11, 13])) && decide (ordSpec 54 = (360360, [5, 7, 8, 9, 11, 13]))) = true := by kernel_rfl

end Go.Proofs.Ytaedgicglddihaa
