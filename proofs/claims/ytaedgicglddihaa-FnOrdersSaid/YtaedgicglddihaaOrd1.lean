/-
  GreatestOrder: the plain functions of the program and of the reference answer alike, a sum at a time, by the kernel (written by a program of this claim's own, gen_ord.py).
-/
import Derived.Test.YtaedgicglddihaaOrdLit
namespace Go.Proofs.Ytaedgicglddihaa

set_option maxRecDepth 10000000 in
theorem ord_0 : (decide (ordImpl 0 = (1, [])) && decide (ordSpec 0 = (1, []))) = true := by kernel_rfl

set_option maxRecDepth 10000000 in
theorem ord_1 : (decide (ordImpl 1 = (1, [])) && decide (ordSpec 1 = (1, []))) = true := by kernel_rfl

set_option maxRecDepth 10000000 in
theorem ord_2 : (decide (ordImpl 2 = (2, [2])) && decide (ordSpec 2 = (2, [2]))) = true := by kernel_rfl

set_option maxRecDepth 10000000 in
theorem ord_3 : (decide (ordImpl 3 = (3, [3])) && decide (ordSpec 3 = (3, [3]))) = true := by kernel_rfl

set_option maxRecDepth 10000000 in
theorem ord_4 : (decide (ordImpl 4 = (4, [4])) && decide (ordSpec 4 = (4, [4]))) = true := by kernel_rfl

set_option maxRecDepth 10000000 in
theorem ord_5 : (decide (ordImpl 5 = (6, [2, 3])) && decide (ordSpec 5 = (6, [2, 3]))) = true := by kernel_rfl

set_option maxRecDepth 10000000 in
theorem ord_6 : (decide (ordImpl 6 = (6, [2, 3])) && decide (ordSpec 6 = (6, [2, 3]))) = true := by kernel_rfl

set_option maxRecDepth 10000000 in
theorem ord_7 : (decide (ordImpl 7 = (12, [3, 4])) && decide (ordSpec 7 = (12, [3, 4]))) = true := by kernel_rfl

set_option maxRecDepth 10000000 in
theorem ord_8 : (decide (ordImpl 8 = (15, [3, 5])) && decide (ordSpec 8 = (15, [3, 5]))) = true := by kernel_rfl

set_option maxRecDepth 10000000 in
theorem ord_9 : (decide (ordImpl 9 = (20, [4, 5])) && decide (ordSpec 9 = (20, [4, 5]))) = true := by kernel_rfl

set_option maxRecDepth 10000000 in
theorem ord_10 : (decide (ordImpl 10 = (30, [2, 3, 5])) && decide (ordSpec 10 = (30, [2, 3, 5]))) = true := by kernel_rfl

set_option maxRecDepth 10000000 in
theorem ord_11 : (decide (ordImpl 11 = (30, [2, 3, 5])) && decide (ordSpec 11 = (30, [2, 3, 5]))) = true := by kernel_rfl

set_option maxRecDepth 10000000 in
theorem ord_12 : (decide (ordImpl 12 = (60, [3, 4, 5])) && decide (ordSpec 12 = (60, [3, 4, 5]))) = true := by kernel_rfl

set_option maxRecDepth 10000000 in
theorem ord_13 : (decide (ordImpl 13 = (60, [3, 4, 5])) && decide (ordSpec 13 = (60, [3, 4, 5]))) = true := by kernel_rfl

set_option maxRecDepth 10000000 in
theorem ord_14 : (decide (ordImpl 14 = (84, [3, 4, 7])) && decide (ordSpec 14 = (84, [3, 4, 7]))) = true := by kernel_rfl

set_option maxRecDepth 10000000 in
theorem ord_15 : (decide (ordImpl 15 = (105, [3, 5, 7])) && decide (ordSpec 15 = (105, [3, 5, 7]))) = true := by kernel_rfl

set_option maxRecDepth 10000000 in
theorem ord_16 : (decide (ordImpl 16 = (140, [4, 5, 7])) && decide (ordSpec 16 = (140, [4, 5, 7]))) = true := by kernel_rfl

set_option maxRecDepth 10000000 in
theorem ord_17 : (decide (ordImpl 17 = (210, [2, 3, 5, 7])) && decide (ordSpec 17 = (210, [2, 3, 5, 7]))) = true := by kernel_rfl

set_option maxRecDepth 10000000 in
theorem ord_18 : (decide (ordImpl 18 = (210, [2, 3, 5, 7])) && decide (ordSpec 18 = (210, [2, 3, 5, 7]))) = true := by kernel_rfl

set_option maxRecDepth 10000000 in
theorem ord_19 : (decide (ordImpl 19 = (420, [3, 4, 5, 7])) && decide (ordSpec 19 = (420, [3, 4, 5, 7]))) = true := by kernel_rfl

set_option maxRecDepth 10000000 in
theorem ord_20 : (decide (ordImpl 20 = (420, [3, 4, 5, 7])) && decide (ordSpec 20 = (420, [3, 4, 5, 7]))) = true := by kernel_rfl

set_option maxRecDepth 10000000 in
theorem ord_21 : (decide (ordImpl 21 = (420, [3, 4, 5, 7])) && decide (ordSpec 21 = (420, [3, 4, 5, 7]))) = true := by kernel_rfl

set_option maxRecDepth 10000000 in
theorem ord_22 : (decide (ordImpl 22 = (420, [3, 4, 5, 7])) && decide (ordSpec 22 = (420, [3, 4, 5, 7]))) = true := by kernel_rfl

set_option maxRecDepth 10000000 in
theorem ord_23 : (decide (ordImpl 23 = (840, [3, 5, 7, 8])) && decide (ordSpec 23 = (840, [3, 5, 7, 8]))) = true := by kernel_rfl

set_option maxRecDepth 10000000 in
theorem ord_24 : (decide (ordImpl 24 = (840, [3, 5, 7, 8])) && decide (ordSpec 24 = (840, [3, 5, 7, 8]))) = true := by kernel_rfl

set_option maxRecDepth 10000000 in
theorem ord_25 : (decide (ordImpl 25 = (1260, [4, 5, 7, 9])) && decide (ordSpec 25 = (1260, [4, 5, 7, 9]))) = true := by kernel_rfl

set_option maxRecDepth 10000000 in
theorem ord_26 : (decide (ordImpl 26 = (1260, [4, 5, 7, 9])) && decide (ordSpec 26 = (1260, [4, 5, 7, 9]))) = true := by kernel_rfl

set_option maxRecDepth 10000000 in
theorem ord_27 : (decide (ordImpl 27 = (1540, [4, 5, 7, 11])) && decide (ordSpec 27 = (1540, [4, 5, 7, 11]))) = true := by kernel_rfl

set_option maxRecDepth 10000000 in
theorem ord_28 : (decide (ordImpl 28 = (2310, [2, 3, 5, 7, 11])) && decide (ordSpec 28 = (2310, [2, 3, 5, 7, 11]))) = true := by kernel_rfl

set_option maxRecDepth 10000000 in
theorem ord_29 : (decide (ordImpl 29 = (2520, [5, 7, 8, 9])) && decide (ordSpec 29 = (2520, [5, 7, 8, 9]))) = true := by kernel_rfl

set_option maxRecDepth 10000000 in
theorem ord_30 : (decide (ordImpl 30 = (4620, [3, 4, 5, 7, 11])) && decide (ordSpec 30 = (4620, [3, 4, 5, 7, 11]))) = true := by kernel_rfl

set_option maxRecDepth 10000000 in
theorem ord_31 : (decide (ordImpl 31 = (4620, [3, 4, 5, 7, 11])) && decide (ordSpec 31 = (4620, [3, 4, 5, 7, 11]))) = true := by kernel_rfl

set_option maxRecDepth 10000000 in
theorem ord_32 : (decide (ordImpl 32 = (5460, [3, 4, 5, 7, 13])) && decide (ordSpec 32 = (5460, [3, 4, 5, 7, 13]))) = true := by kernel_rfl

set_option maxRecDepth 10000000 in
theorem ord_33 : (decide (ordImpl 33 = (5460, [3, 4, 5, 7, 13])) && decide (ordSpec 33 = (5460, [3, 4, 5, 7, 13]))) = true := by kernel_rfl

set_option maxRecDepth 10000000 in
theorem ord_34 : (decide (ordImpl 34 = (9240, [3, 5, 7, 8, 11])) && decide (ordSpec 34 = (9240, [3, 5, 7, 8, 11]))) = true := by kernel_rfl

set_option maxRecDepth 10000000 in
theorem ord_35 : (decide (ordImpl 35 = (9240, [3, 5, 7, 8, 11])) && decide (ordSpec 35 = (9240, [3, 5, 7, 8, 11]))) = true := by kernel_rfl

set_option maxRecDepth 10000000 in
theorem ord_36 : (decide (ordImpl 36 = (13860, [4, 5, 7, 9, 11])) && decide (ordSpec 36 = (13860, [4, 5, 7, 9, 11]))) = true := by kernel_rfl

set_option maxRecDepth 10000000 in
theorem ord_37 : (decide (ordImpl 37 = (13860, [4, 5, 7, 9, 11])) && decide (ordSpec 37 = (13860, [4, 5, 7, 9, 11]))) = true := by kernel_rfl

end Go.Proofs.Ytaedgicglddihaa
