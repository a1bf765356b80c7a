/-
  What a call that hands back a turner has at its end.
-/
import Derived.Test.YtcifdkliiljmkaaGreatDoorPackB
namespace Go.Proofs.YtcifdkliiljmkaaGreatDoor
open Go.RowKit

theorem ow_Turner_zero (w : World) : turnE.ow w [.int .i64 0, .int .i64 0, .slice none 0 0] default [] :=
  ow_Turner (r := default) ⟨by decide, by decide⟩ ⟨by decide, by decide⟩ (ow_nil _ _ _)

theorem turn_done {w0 w : World} {ps : List Ob} {v2 : Value} {x : Turner} {c : Int} (S : Star w0 w (oE intE [.int .i64 x.letters] x.letters :: oE intE [.int .i64 x.start] x.start :: oE movessE [v2] x.moves :: ps)) :
    MakesC turnE (x, c) w0 (.returned (.tuple #[.agg #[.int .i64 x.letters, .int .i64 x.start, v2], .int .i64 c])) w := by
  have S1 := S.sel [1, 2, 0] (by decide) (by simp)
  have S1 : Star w0 w [oE intE [.int .i64 x.start] x.start, oE movessE [v2] x.moves, oE intE [.int .i64 x.letters] x.letters] := S1
  have S2 := S1.pair.sel [1, 0]
  have S2 : Star w0 w [oE intE [.int .i64 x.letters] x.letters, oE (pairE intE movessE) [.int .i64 x.start, v2] (x.start, x.moves)] := S2
  exact (S2.pair.via (F := fun r : Turner => (r.letters, r.start, r.moves)) x rfl).done (x := (x, c))

theorem bdm1 : (-9223372036854775808 : Int) ≤ -1 ∧ (-1 : Int) ≤ 9223372036854775807 := by decide

theorem ow_move {x y : Int} (h : -9223372036854775808 ≤ x ∧ x ≤ 9223372036854775807) (k : -9223372036854775808 ≤ y ∧ y ≤ 9223372036854775807) (w : World) : moveE.ow w [Value.int .i64 x, Value.int .i64 y] ⟨x, y⟩ [] :=
  ⟨[_], [_], [], [], rfl, rfl, ⟨⟨rfl, h⟩, rfl⟩, ⟨⟨rfl, k⟩, rfl⟩⟩

end Go.Proofs.YtcifdkliiljmkaaGreatDoor
