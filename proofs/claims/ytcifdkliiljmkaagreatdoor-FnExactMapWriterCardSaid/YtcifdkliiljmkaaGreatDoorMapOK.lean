/-
  MapWriter: what both sides share (results that are writers, rows).
-/
import Derived.Test.YtcifdkliiljmkaaGreatDoorPackB
import Derived.Test.YtcifdkliiljmkaaGreatDoorMapDefK
namespace Go.Proofs.YtcifdkliiljmkaaGreatDoor
open Go.RowKit

theorem ow_Writer_zero (w : World) : writE.ow w [.int .i64 0, .int .i64 0, .slice none 0 0, .slice none 0 0] default [] :=
  ⟨_, _, [], [], rfl, rfl, ow_Turner (r := default) (by decide) (by decide) (ow_nil _ _ _), ow_nil _ _ _⟩

theorem writ_doneM {w0 w : World} {ps : List Ob} {v2 v3 : Value} {x : Writer} {c : Int} (S : Star w0 w (oE movessE [v2] x.turner.moves :: oE strssE [v3] x.out :: ps)) (b0 : -9223372036854775808 ≤ x.turner.letters ∧ x.turner.letters ≤ 9223372036854775807) (b1 : -9223372036854775808 ≤ x.turner.start ∧ x.turner.start ≤ 9223372036854775807) :
    MakesC writE (x, c) w0 (.returned (.tuple #[.agg #[.int .i64 x.turner.letters, .int .i64 x.turner.start, v2, v3], .int .i64 c])) w := by
  have S0 := (S.sel [0, 1]).int b1
  have S1 : Star w0 w [oE intE [.int .i64 x.turner.start] x.turner.start, oE movessE [v2] x.turner.moves, oE strssE [v3] x.out] := S0
  have S2 : Star w0 w [oE (pairE intE movessE) [.int .i64 x.turner.start, v2] (x.turner.start, x.turner.moves), oE strssE [v3] x.out] := S1.pair
  have S3 : Star w0 w [oE intE [.int .i64 x.turner.letters] x.turner.letters, oE (pairE intE movessE) [.int .i64 x.turner.start, v2] (x.turner.start, x.turner.moves), oE strssE [v3] x.out] := S2.int b0
  have S4 : Star w0 w [oE turnE [.int .i64 x.turner.letters, .int .i64 x.turner.start, v2] x.turner, oE strssE [v3] x.out] := S3.pair.via (F := fun r : Turner => (r.letters, r.start, r.moves)) x.turner rfl
  exact (S4.pair.via (F := fun w : Writer => (w.turner, w.out)) x rfl).done (x := (x, c))

end Go.Proofs.YtcifdkliiljmkaaGreatDoor
