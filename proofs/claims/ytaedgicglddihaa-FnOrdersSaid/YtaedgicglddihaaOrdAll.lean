/-
  GreatestOrder: the plain functions of the program and of the reference answer alike (written by a program of this claim's own, gen_ord.py).
-/
import Derived.Test.YtaedgicglddihaaOrd1
import Derived.Test.YtaedgicglddihaaOrd2
import Derived.Test.YtaedgicglddihaaOrd3
import Derived.Test.YtaedgicglddihaaOrd4
namespace Go.Proofs.Ytaedgicglddihaa

theorem ord_two {a b c : Nat × List Nat} (h : (decide (a = c) && decide (b = c)) = true) : a = c ∧ b = c := by simpa using h

theorem ord_lit : ∀ s, s < 61 → ordImpl s = ordLit s ∧ ordSpec s = ordLit s
  | 0, _ => ord_two ord_0
  | 1, _ => ord_two ord_1
  | 2, _ => ord_two ord_2
  | 3, _ => ord_two ord_3
  | 4, _ => ord_two ord_4
  | 5, _ => ord_two ord_5
  | 6, _ => ord_two ord_6
  | 7, _ => ord_two ord_7
  | 8, _ => ord_two ord_8
  | 9, _ => ord_two ord_9
  | 10, _ => ord_two ord_10
  | 11, _ => ord_two ord_11
  | 12, _ => ord_two ord_12
  | 13, _ => ord_two ord_13
  | 14, _ => ord_two ord_14
  | 15, _ => ord_two ord_15
  | 16, _ => ord_two ord_16
  | 17, _ => ord_two ord_17
  | 18, _ => ord_two ord_18
  | 19, _ => ord_two ord_19
  | 20, _ => ord_two ord_20
  | 21, _ => ord_two ord_21
  | 22, _ => ord_two ord_22
  | 23, _ => ord_two ord_23
  | 24, _ => ord_two ord_24
  | 25, _ => ord_two ord_25
  | 26, _ => ord_two ord_26
  | 27, _ => ord_two ord_27
  | 28, _ => ord_two ord_28
  | 29, _ => ord_two ord_29
  | 30, _ => ord_two ord_30
  | 31, _ => ord_two ord_31
  | 32, _ => ord_two ord_32
  | 33, _ => ord_two ord_33
  | 34, _ => ord_two ord_34
  | 35, _ => ord_two ord_35
  | 36, _ => ord_two ord_36
  | 37, _ => ord_two ord_37
  | 38, _ => ord_two ord_38
  | 39, _ => ord_two ord_39
  | 40, _ => ord_two ord_40
  | 41, _ => ord_two ord_41
  | 42, _ => ord_two ord_42
  | 43, _ => ord_two ord_43
  | 44, _ => ord_two ord_44
  | 45, _ => ord_two ord_45
  | 46, _ => ord_two ord_46
  | 47, _ => ord_two ord_47
  | 48, _ => ord_two ord_48
  | 49, _ => ord_two ord_49
  | 50, _ => ord_two ord_50
  | 51, _ => ord_two ord_51
  | 52, _ => ord_two ord_52
  | 53, _ => ord_two ord_53
  | 54, _ => ord_two ord_54
  | 55, _ => ord_two ord_55
  | 56, _ => ord_two ord_56
  | 57, _ => ord_two ord_57
  | 58, _ => ord_two ord_58
  | 59, _ => ord_two ord_59
  | 60, _ => ord_two ord_60
  | s + 61, h => absurd h (by omega)

theorem ord_alike (s : Nat) (h : s < 61) : ordImpl s = ordSpec s := (ord_lit s h).1.trans (ord_lit s h).2.symm

end Go.Proofs.Ytaedgicglddihaa
