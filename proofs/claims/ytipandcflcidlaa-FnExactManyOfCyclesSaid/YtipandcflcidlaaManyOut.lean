/-
  What a call that hands back a Many has at its end.
-/
import Derived.Test.YtipandcflcidlaaStar
import Derived.Test.YtipandcflcidlaaMMany
namespace Go.Proofs.Ytipandcflcidlaa
open Go.RowKit

theorem ow_Many_zero (w : World) : manyE.ow w [.int .i64 0, .slice none 0 0, .slice none 0 0, .slice none 0 0] default [] :=
  ow_Many (r := default) ⟨by decide, by decide⟩ (ow_nil _ _ _) (ow_nil _ _ _) (ow_nil _ _ _)

theorem many_done {w0 w : World} {ps : List Ob} {v1 v2 v3 : Value} {x : Many} {c : Int} (S : Star w0 w (oE intE [.int .i64 x.letters] x.letters :: oE intsE [v1] x.starts :: oE boolsE [v2] x.accept :: oE intsssE [v3] x.next :: ps)) :
    MakesC manyE (x, c) w0 (.returned (.tuple #[.agg #[.int .i64 x.letters, v1, v2, v3], .int .i64 c])) w := by
  have S1 := S.sel [2, 3, 0, 1] (by decide) (by simp)
  have S1 : Star w0 w [oE boolsE [v2] x.accept, oE intsssE [v3] x.next, oE intE [.int .i64 x.letters] x.letters, oE intsE [v1] x.starts] := S1
  have S2 := S1.pair.sel [2, 0, 1]
  have S2 : Star w0 w [oE intsE [v1] x.starts, oE (pairE boolsE intsssE) [v2, v3] (x.accept, x.next), oE intE [.int .i64 x.letters] x.letters] := S2
  have S3 := S2.pair.sel [1, 0]
  have S3 : Star w0 w [oE intE [.int .i64 x.letters] x.letters, oE (pairE intsE (pairE boolsE intsssE)) [v1, v2, v3] (x.starts, x.accept, x.next)] := S3
  exact (S3.pair.via (F := fun r : Many => (r.letters, r.starts, r.accept, r.next)) x rfl).done (x := (x, c))

end Go.Proofs.Ytipandcflcidlaa
