/-
  Aid for turners made by a change of each move (written by a program of this claim's own, gen_join.py).
-/
import Derived.Test.YtcifdkliiljmkaaGreatDoorJoinDefK
import Derived.Test.YtcifdkliiljmkaaGreatDoorTurnOutK
import Derived.Test.YtcifdkliiljmkaaGreatDoorStarJK
namespace Go.Proofs.YtcifdkliiljmkaaGreatDoor
open Go.RowKit

theorem moveOk_bdj {m : Move} {n l k : Int} (h : moveOk m n l k = true) : (-2 ≤ m.to ∧ (m.to < n ∨ m.to < 0)) ∧ (-1 ≤ m.dir ∧ m.dir ≤ 1) := by
  unfold moveOk at h
  rw [Bool.or_eq_true] at h
  rcases h with h | h
  · unfold isStopB at h
    rw [Bool.and_eq_true, Bool.or_eq_true, beq_iff_eq, beq_iff_eq, beq_iff_eq] at h
    rcases h.1 with h1 | h1 <;> exact ⟨⟨by omega, .inr (by omega)⟩, by omega⟩
  · rw [Bool.and_eq_true, Bool.and_eq_true, Bool.and_eq_true] at h
    have h1 := within_true.1 h.1.1.1
    have h2 := within_true.1 h.1.1.2
    exact ⟨⟨by omega, .inl (by omega)⟩, by omega⟩

theorem turn_made {w0 w : World} {ps : List Ob} {v2 : Value} {x : Turner} (S : Star w0 w (oE intE [.int .i64 x.letters] x.letters :: oE intE [.int .i64 x.start] x.start :: oE movessE [v2] x.moves :: ps)) :
    MakesS turnE id x w0 (.returned (.agg #[.int .i64 x.letters, .int .i64 x.start, v2])) w := by
  obtain ⟨cs, fp, h1, h2, h3, h4, h5⟩ := turn_done (c := 0) S
  simp only [Ending.returned.injEq, Value.tuple.injEq, Array.mk.injEq, List.cons.injEq, and_true] at h1
  exact ⟨cs, fp, congrArg Ending.returned h1, h2, h3, h4, h5⟩

theorem Star.moves {w0 w : World} {ps : List Ob} {a b v : Value} {t : Turner} (S : Star w0 w (oE turnE [a, b, v] t :: ps)) : Star w0 w (oE movessE [v] t.moves :: ps) :=
  S.upd fun f hf nd hlt => ⟨f, by
    obtain ⟨c1, c2, f1, f2, e1, rfl, h1, h2⟩ := hf
    obtain ⟨d1, d2, g1, g2, rfl, rfl, h3, h4⟩ := h2
    obtain ⟨a', rfl⟩ := one_of (Enc.rd_len _ (Enc.rd_ow _ h1))
    obtain ⟨b', rfl⟩ := one_of (Enc.rd_len _ (Enc.rd_ow _ h3))
    simp only [List.cons_append, List.nil_append, List.cons.injEq] at e1
    obtain ⟨-, -, rfl⟩ := e1
    rw [h1.2, h3.2]
    exact h4, nd, fun b hb => .inl hb, hlt, But.refl _ _⟩

theorem bd_i64 {x : Int} {a b : Int} (h : a ≤ x ∧ x ≤ b) (ha : -9223372036854775808 ≤ a := by decide) (hb : b ≤ 9223372036854775807 := by decide) : -9223372036854775808 ≤ x ∧ x ≤ 9223372036854775807 := ⟨by omega, by omega⟩

theorem homeM_bd (k : Int) (hk : -1 ≤ k ∧ k ≤ 100) (m : Move) (ht : -2 ≤ m.to ∧ m.to ≤ 100) (hd : -1 ≤ m.dir ∧ m.dir ≤ 1) : (-9223372036854775808 ≤ (homeM k m).to ∧ (homeM k m).to ≤ 9223372036854775807) ∧ (-9223372036854775808 ≤ (homeM k m).dir ∧ (homeM k m).dir ≤ 9223372036854775807) := by
  unfold homeM
  split
  · exact ⟨⟨by show _ ≤ k; omega, by show k ≤ _; omega⟩, bdm1⟩
  · omega

theorem raisedM_bd (k : Int) (hk : -1 ≤ k ∧ k ≤ 100) (m : Move) (ht : -2 ≤ m.to ∧ m.to ≤ 100) (hd : -1 ≤ m.dir ∧ m.dir ≤ 1) : (-9223372036854775808 ≤ (raisedM k m).to ∧ (raisedM k m).to ≤ 9223372036854775807) ∧ (-9223372036854775808 ≤ (raisedM k m).dir ∧ (raisedM k m).dir ≤ 9223372036854775807) := by
  unfold raisedM
  split
  · omega
  · exact ⟨⟨by show _ ≤ m.to + k; omega, by show m.to + k ≤ _; omega⟩, ⟨by show _ ≤ m.dir; omega, by show m.dir ≤ _; omega⟩⟩

end Go.Proofs.YtcifdkliiljmkaaGreatDoor
