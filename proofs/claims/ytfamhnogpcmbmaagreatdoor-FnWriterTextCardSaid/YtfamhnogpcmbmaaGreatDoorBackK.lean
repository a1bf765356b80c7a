/-
  BackWriter of the program (written by a program of this claim's own, gen_back.py).
-/
import Derived.Test.YtfamhnogpcmbmaaGreatDoorNthTurnK
import Derived.Test.YtfamhnogpcmbmaaGreatDoorBackLetK
namespace Go.Proofs.YtfamhnogpcmbmaaGreatDoor
open Go.RowKit

theorem ow_Writer_zero (w : World) : writE.ow w [.int .i64 0, .int .i64 0, .slice none 0 0, .slice none 0 0] default [] :=
  ⟨_, _, [], [], rfl, rfl, ow_Turner_zero w, ow_nil _ _ _⟩

theorem writ_done {w0 w : World} {ps : List Ob} {v2 v3 : Value} {x : Writer} {c : Int} (S : Star w0 w (oE movessE [v2] x.turner.moves :: oE strssE [v3] x.out :: ps)) (b0 : -9223372036854775808 ≤ x.turner.letters ∧ x.turner.letters ≤ 9223372036854775807) (b1 : -9223372036854775808 ≤ x.turner.start ∧ x.turner.start ≤ 9223372036854775807) :
    MakesC writE (x, c) w0 (.returned (.tuple #[.agg #[.int .i64 x.turner.letters, .int .i64 x.turner.start, v2, v3], .int .i64 c])) w := by
  have S0 := (S.sel [0, 1]).int b1
  have S1 : Star w0 w [oE intE [.int .i64 x.turner.start] x.turner.start, oE movessE [v2] x.turner.moves, oE strssE [v3] x.out] := S0
  have S2 : Star w0 w [oE (pairE intE movessE) [.int .i64 x.turner.start, v2] (x.turner.start, x.turner.moves), oE strssE [v3] x.out] := S1.pair
  have S3 : Star w0 w [oE intE [.int .i64 x.turner.letters] x.turner.letters, oE (pairE intE movessE) [.int .i64 x.turner.start, v2] (x.turner.start, x.turner.moves), oE strssE [v3] x.out] := S2.int b0
  have S4 : Star w0 w [oE turnE [.int .i64 x.turner.letters, .int .i64 x.turner.start, v2] x.turner, oE strssE [v3] x.out] := S3.pair.via (F := fun r : Turner => (r.letters, r.start, r.moves)) x.turner rfl
  exact (S4.pair.via (F := fun w : Writer => (w.turner, w.out)) x rfl).done (x := (x, c))

theorem map_flat {α : Type} (f : α → Value) (l : List α) : l.map f = l.flatMap fun x => [f x] := by
  induction l with
  | nil => rfl
  | cons a l ih => rw [List.map_cons, List.flatMap_cons, ih]; rfl

theorem noStr_vals (L : Nat) : List.replicate (L + 2) (Value.string ⟨#[]⟩) = (noStr L).flatMap fun x => [Value.string x] := by
  rw [← map_flat]
  unfold noStr
  rw [List.map_append, List.map_replicate, ← List.replicate_append_replicate]
  rfl

theorem back0_set (L : Nat) : (List.replicate (L + 2) (⟨0, 1⟩ : Move)).set (L + 1) ⟨1, -1⟩ = back0 L := by
  unfold back0
  apply List.ext_getElem (by simp)
  intro i h1 h2
  simp only [List.getElem_set, List.getElem_replicate]
  by_cases h : L + 1 = i
  · subst h; rw [if_pos rfl, List.getElem_append_right (by simp)]; simp
  · rw [if_neg h]
    by_cases h3 : i < L
    · rw [List.getElem_append_left (by simpa using h3)]; simp
    · have e : i = L := by simp at h1; omega
      subst e
      rw [List.getElem_append_right (by simp)]; simp

theorem back1_set (L : Nat) : (List.replicate (L + 2) (⟨1, -1⟩ : Move)).set L ⟨-1, 0⟩ = back1 L := by
  unfold back1
  apply List.ext_getElem (by simp)
  intro i h1 h2
  simp only [List.getElem_set, List.getElem_replicate]
  by_cases h : L = i
  · subst h; rw [if_pos rfl, List.getElem_append_right (by simp)]; simp
  · rw [if_neg h]
    by_cases h3 : i < L
    · rw [List.getElem_append_left (by simpa using h3)]; simp
    · have e : i = L + 1 := by simp at h1; omega
      subst e
      rw [List.getElem_append_right (by simp)]; simp

theorem back0_in (L : Nat) (w : World) : ∀ x, x ∈ back0 L → moveE.ow w (cMove x) x [] := by
  intro x hx
  refine ow_moveE ?_
  unfold back0 at hx
  rcases List.mem_append.1 hx with h | h
  · obtain ⟨-, rfl⟩ := List.mem_replicate.1 h; exact ⟨by decide, by decide⟩
  · rcases List.mem_cons.1 h with rfl | h
    · exact ⟨by decide, by decide⟩
    · obtain rfl : x = _ := by simpa using h
      exact ⟨by decide, by decide⟩

theorem back1_in (L : Nat) (w : World) : ∀ x, x ∈ back1 L → moveE.ow w (cMove x) x [] := by
  intro x hx
  refine ow_moveE ?_
  unfold back1 at hx
  rcases List.mem_append.1 hx with h | h
  · obtain ⟨-, rfl⟩ := List.mem_replicate.1 h; exact ⟨by decide, by decide⟩
  · rcases List.mem_cons.1 h with rfl | h
    · exact ⟨by decide, by decide⟩
    · obtain rfl : x = _ := by simpa using h
      exact ⟨by decide, by decide⟩

theorem strs_in (l : List ByteArray) (h : ∀ x, x ∈ l → x.size ≤ 1) (w : World) : ∀ x, x ∈ l → strE.ow w [Value.string x] x [] := fun x hx => ⟨⟨rfl, by have := h x hx; simp [maxLen]; omega⟩, rfl⟩

theorem noStr_small (L : Nat) : ∀ x, x ∈ noStr L → x.size ≤ 1 := by
  intro x hx
  unfold noStr at hx
  rcases List.mem_append.1 hx with h | h
  · obtain ⟨-, rfl⟩ := List.mem_replicate.1 h; decide
  · rcases List.mem_cons.1 h with rfl | h
    · decide
    · obtain rfl : x = _ := by simpa using h
      decide

theorem allStr_small (L : Nat) : ∀ x, x ∈ allStr L → x.size ≤ 1 := by
  intro x hx
  unfold allStr at hx
  rcases List.mem_append.1 hx with h | h
  · obtain ⟨a, -, rfl⟩ := List.mem_map.1 h; exact Nat.le_refl _
  · rcases List.mem_cons.1 h with rfl | h
    · decide
    · obtain rfl : x = _ := by simpa using h
      decide

end Go.Proofs.YtfamhnogpcmbmaaGreatDoor
