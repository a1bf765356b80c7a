/-
  What a run of a turner hands back.
-/
import Derived.Test.YtjochoghmpcgdaaDoorRunMK
namespace Go.Proofs.YtjochoghmpcgdaaDoor
open Go.RowKit

def slLen : Value → Nat
  | .slice _ n _ => n
  | _ => 0

theorem Star.slen {w0 w : World} {ps : List Ob} (S : Star w0 w ps) (n : Nat) {α : Type} {E : Enc α} {ty : TypeId} {v : Value} {l : List α} (h : ps[n]? = some (oE (sliceE E ty) [v] l)) : ∃ a c, v = .slice a l.length c := by
  obtain ⟨a, cap, hv, -⟩ := S.rd n h
  exact ⟨a, cap, by simpa using hv⟩

/-- A run handed back: the places in new memory, the verdict, some number. -/
def RunIs (R : List Pl × Int) (w : World) (e : Ending) (w' : World) : Prop :=
  ∃ (v : Value) (f : List Nat) (i : Int), e = .returned (.tuple #[v, .int .i64 R.2, .int .i64 i]) ∧ plsE.ow w' [v] R.1 f ∧ f.Nodup ∧ (∀ b, b ∈ f → w.heap.size ≤ b) ∧ Below w.heap.size w w'

theorem Star.run {w0 w : World} {ps : List Ob} {v : Value} {l : List Pl} {x i : Int} (S : Star w0 w (oE plsE [v] l :: ps)) : RunIs (l, x) w0 (.returned (.tuple #[v, .int .i64 x, .int .i64 i])) w := by
  obtain ⟨B, fp, hh, -⟩ := S
  obtain ⟨h1, h2, h3⟩ := hh 0 _ rfl
  exact ⟨v, fp 0, i, rfl, h1, h2, fun b hb => (h3 b hb).1, B⟩

end Go.Proofs.YtjochoghmpcgdaaDoor
