/-
  The length, asked by the program's own generic size (written by a program of this claim's own, gen_size.py).
-/
import Derived.Test.YtgegpehcddajjaaStates
namespace Go.Proofs.Ytgegpehcddajjaa
open Go.RowKit

theorem size_moves (v : Value) (l : List (Move)) (B : Nat) (w : World) (h : movesE.rd w B [v] l) : Calls Try.prog 51 #[v] w (Gives (.int .i64 l.length) w) := by
  have hl := len_le h
  obtain ⟨a, cap, he, h1, h2, -⟩ := h
  obtain rfl : v = .slice a l.length cap := by simpa using he
  clear he h1 h2
  go_enter Try.func51, Try.ntmps51
  go_wp2
  go_ret
  exact ⟨rfl, Below.refl _ _⟩

theorem size_movess (v : Value) (l : List (List Move)) (B : Nat) (w : World) (h : movessE.rd w B [v] l) : Calls Try.prog 50 #[v] w (Gives (.int .i64 l.length) w) := by
  have hl := len_le h
  obtain ⟨a, cap, he, h1, h2, -⟩ := h
  obtain rfl : v = .slice a l.length cap := by simpa using he
  clear he h1 h2
  go_enter Try.func50, Try.ntmps50
  go_wp2
  go_ret
  exact ⟨rfl, Below.refl _ _⟩

theorem size_pmoves (v : Value) (l : List (PMove)) (B : Nat) (w : World) (h : pmovesE.rd w B [v] l) : Calls Try.prog 30 #[v] w (Gives (.int .i64 l.length) w) := by
  have hl := len_le h
  obtain ⟨a, cap, he, h1, h2, -⟩ := h
  obtain rfl : v = .slice a l.length cap := by simpa using he
  clear he h1 h2
  go_enter Try.func30, Try.ntmps30
  go_wp2
  go_ret
  exact ⟨rfl, Below.refl _ _⟩

theorem size_pmovess (v : Value) (l : List (List PMove)) (B : Nat) (w : World) (h : pmovessE.rd w B [v] l) : Calls Try.prog 27 #[v] w (Gives (.int .i64 l.length) w) := by
  have hl := len_le h
  obtain ⟨a, cap, he, h1, h2, -⟩ := h
  obtain rfl : v = .slice a l.length cap := by simpa using he
  clear he h1 h2
  go_enter Try.func27, Try.ntmps27
  go_wp2
  go_ret
  exact ⟨rfl, Below.refl _ _⟩

end Go.Proofs.Ytgegpehcddajjaa
