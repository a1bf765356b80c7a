/-
  The length, asked by the program's own generic size (written by a program of this claim's own, gen_size.py).
-/
import Derived.Test.YtipandcflcidlaaStates
namespace Go.Proofs.Ytipandcflcidlaa
open Go.RowKit

theorem size_bools (v : Value) (l : List (Bool)) (B : Nat) (w : World) (h : boolsE.rd w B [v] l) : Calls Try.prog 26 #[v] w (Gives (.int .i64 l.length) w) := by
  have hl := len_le h
  obtain ⟨a, cap, he, h1, h2, -⟩ := h
  obtain rfl : v = .slice a l.length cap := by simpa using he
  clear he h1 h2
  go_enter Try.func26, Try.ntmps26
  go_wp2
  go_ret
  exact ⟨rfl, Below.refl _ _⟩

theorem size_boolss (v : Value) (l : List (List Bool)) (B : Nat) (w : World) (h : boolssE.rd w B [v] l) : Calls Try.prog 42 #[v] w (Gives (.int .i64 l.length) w) := by
  have hl := len_le h
  obtain ⟨a, cap, he, h1, h2, -⟩ := h
  obtain rfl : v = .slice a l.length cap := by simpa using he
  clear he h1 h2
  go_enter Try.func42, Try.ntmps42
  go_wp2
  go_ret
  exact ⟨rfl, Below.refl _ _⟩

theorem size_intsss (v : Value) (l : List (List (List Int))) (B : Nat) (w : World) (h : intsssE.rd w B [v] l) : Calls Try.prog 45 #[v] w (Gives (.int .i64 l.length) w) := by
  have hl := len_le h
  obtain ⟨a, cap, he, h1, h2, -⟩ := h
  obtain rfl : v = .slice a l.length cap := by simpa using he
  clear he h1 h2
  go_enter Try.func45, Try.ntmps45
  go_wp2
  go_ret
  exact ⟨rfl, Below.refl _ _⟩

end Go.Proofs.Ytipandcflcidlaa
