/-
  What is known of a rotator that is one, and what a call that hands one back has at its end.
-/
import Derived.Test.YtmdcoekpmiphjaaSpecRot
import Derived.Test.YtmdcoekpmiphjaaRotRows
import Derived.Test.YtmdcoekpmiphjaaMRotator
namespace Go.Proofs.Ytmdcoekpmiphjaa
open Go.RowKit

/-- What is known of a rotator that is one. -/
structure RotOk (r : Rot) : Prop where
  l1 : 1 ≤ r.letters
  l3 : r.letters ≤ 3
  n1 : 1 ≤ r.next.length
  n6 : r.next.length ≤ 6
  s0 : 0 ≤ r.start
  sn : r.start ≤ r.next.length - 1
  fl : r.fin.length = r.next.length
  row : ∀ x, x ∈ r.next → (x.length : Int) = r.letters ∧ ∀ y, y ∈ x → 0 ≤ y ∧ y ≤ r.next.length - 1
  fin : ∀ e, e ∈ r.fin → -2 ≤ e ∧ e ≤ r.next.length - 1

theorem rotOk {r : Rot} (h : validRot r = true) : RotOk r := by
  unfold validRot at h
  simp only [Bool.and_eq_true] at h
  obtain ⟨h1, h2, h3, h4, h5, h6⟩ := h
  have k1 := within_true.1 h1
  have k2 := within_true.1 h2
  have k3 := within_true.1 h3
  have k4 := of_decide_eq_true h4
  rw [List.all_eq_true] at h5 h6
  refine ⟨k1.1, k1.2, by omega, by omega, k3.1, by omega, by omega, fun x hx => ?_, fun e he => ?_⟩
  · have := h6 x hx
    unfold areStates at this
    rw [Bool.and_eq_true, List.all_eq_true] at this
    exact ⟨of_decide_eq_true this.1, fun y hy => within_true.1 (this.2 y hy)⟩
  · exact within_true.1 (h5 e he)

theorem plusAll_zero (l : List (List Int)) : plusAll l 0 = l := by
  unfold plusAll
  simp

theorem cntL_rows_le (l : List (List Int)) (c : Nat) (h : ∀ x, x ∈ l → x.length ≤ c) : cntL intsM l ≤ l.length * c := sum_map_le intsM.cnt c l h

theorem ow_Rot_zero (w : World) : rotsE.ow w [.int .i64 0, .int .i64 0, .slice none 0 0, .slice none 0 0] default [] :=
  ow_Rot (r := default) ⟨by decide, by decide⟩ ⟨by decide, by decide⟩ (ow_nil _ _ _) (ow_nil _ _ _)

theorem rot_done {w0 w : World} {ps : List Ob} {v2 v3 : Value} {x : Rot} {c : Int} (S : Star w0 w (oE intE [.int .i64 x.letters] x.letters :: oE intE [.int .i64 x.start] x.start :: oE intssE [v2] x.next :: oE intsE [v3] x.fin :: ps)) :
    MakesC rotsE (x, c) w0 (.returned (.tuple #[.agg #[.int .i64 x.letters, .int .i64 x.start, v2, v3], .int .i64 c])) w := by
  have S1 := S.sel [2, 3, 0, 1] (by decide) (by simp)
  have S1 : Star w0 w [oE intssE [v2] x.next, oE intsE [v3] x.fin, oE intE [.int .i64 x.letters] x.letters, oE intE [.int .i64 x.start] x.start] := S1
  have S2 := S1.pair.sel [2, 0, 1]
  have S2 : Star w0 w [oE intE [.int .i64 x.start] x.start, oE (pairE intssE intsE) [v2, v3] (x.next, x.fin), oE intE [.int .i64 x.letters] x.letters] := S2
  have S3 := S2.pair.sel [1, 0]
  have S3 : Star w0 w [oE intE [.int .i64 x.letters] x.letters, oE (pairE intE (pairE intssE intsE)) [.int .i64 x.start, v2, v3] (x.start, x.next, x.fin)] := S3
  exact (S3.pair.via (F := fun r : Rot => (r.letters, r.start, r.next, r.fin)) x rfl).done (x := (x, c))

end Go.Proofs.Ytmdcoekpmiphjaa
