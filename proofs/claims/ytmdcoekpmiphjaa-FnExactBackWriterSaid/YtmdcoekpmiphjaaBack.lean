/-
  BackWriter of the program (written by a program of this claim's own, gen_back.py).
-/
import Derived.Test.YtmdcoekpmiphjaaNthTurn
import Derived.Test.YtmdcoekpmiphjaaBackLet
namespace Go.Proofs.Ytmdcoekpmiphjaa
open Go.RowKit

theorem ow_Writer_zero (w : World) : writE.ow w [.int .i64 0, .int .i64 0, .slice none 0 0, .slice none 0 0] default [] :=
  ⟨_, _, [], [], rfl, rfl, ow_Turner_zero w, ow_nil _ _ _⟩

theorem writ_done {w0 w : World} {ps : List Ob} {v2 v3 : Value} {x : Writer} {c : Int} (S : Star w0 w (oE movessE [v2] x.turner.moves :: oE strssE [v3] x.out :: ps)) (b0 : -9223372036854775808 ≤ x.turner.letters ∧ x.turner.letters ≤ 9223372036854775807) (b1 : -9223372036854775808 ≤ x.turner.start ∧ x.turner.start ≤ 9223372036854775807) :
    MakesC writE (x, c) w0 (.returned (.tuple #[.agg #[.int .i64 x.turner.letters, .int .i64 x.turner.start, v2, v3], .int .i64 c])) w := by
  have S0 := (S.sel [0, 1]).int b1
  have S1 : Star w0 w [oE intE [.int .i64 x.turner.start] x.turner.start, oE movessE [v2] x.turner.moves, oE strssE [v3] x.out] := S0
  have S2 : Star w0 w [oE (pairE intE movessE) [.int .i64 x.turner.start, v2] (x.turner.start, x.turner.moves), oE strssE [v3] x.out] := S1.pair
  have S3 : Star w0 w [oE intE [.int .i64 x.turner.letters] x.turner.letters, oE (pairE intE movessE) [.int .i64 x.turner.start, v2] (x.turner.start, x.turner.moves), oE strssE [v3] x.out] := S2.int b0
  have S4 : Star w0 w [oE turnE [.int .i64 x.turner.letters, .int .i64 x.turner.start, v2] x.turner, oE strssE [v3] x.out] := S3.pair.via (F := fun r : Turner => (r.letters, r.start, r.moves)) x.turner rfl
  exact (S4.pair.via (F := fun w : Writer => (w.turner, w.out)) x rfl).done (x := (x, c))

theorem map_flat {α : Type} (f : α → Value) (l : List α) : l.map f = l.flatMap fun x => [f x] := by
  induction l with
  | nil => rfl
  | cons a l ih => rw [List.map_cons, List.flatMap_cons, ih]; rfl

theorem noStr_vals (L : Nat) : List.replicate (L + 2) (Value.string ⟨#[]⟩) = (noStr L).flatMap fun x => [Value.string x] := by
  rw [← map_flat]
  unfold noStr
  rw [List.map_append, List.map_replicate, ← List.replicate_append_replicate]
  rfl

theorem back0_set (L : Nat) : (List.replicate (L + 2) (⟨0, 1⟩ : Move)).set (L + 1) ⟨1, -1⟩ = back0 L := by
  unfold back0
  apply List.ext_getElem (by simp)
  intro i h1 h2
  simp only [List.getElem_set, List.getElem_replicate]
  by_cases h : L + 1 = i
  · subst h; rw [if_pos rfl, List.getElem_append_right (by simp)]; simp
  · rw [if_neg h]
    by_cases h3 : i < L
    · rw [List.getElem_append_left (by simpa using h3)]; simp
    · have e : i = L := by simp at h1; omega
      subst e
      rw [List.getElem_append_right (by simp)]; simp

theorem back1_set (L : Nat) : (List.replicate (L + 2) (⟨1, -1⟩ : Move)).set L ⟨-1, 0⟩ = back1 L := by
  unfold back1
  apply List.ext_getElem (by simp)
  intro i h1 h2
  simp only [List.getElem_set, List.getElem_replicate]
  by_cases h : L = i
  · subst h; rw [if_pos rfl, List.getElem_append_right (by simp)]; simp
  · rw [if_neg h]
    by_cases h3 : i < L
    · rw [List.getElem_append_left (by simpa using h3)]; simp
    · have e : i = L + 1 := by simp at h1; omega
      subst e
      rw [List.getElem_append_right (by simp)]; simp

theorem back0_in (L : Nat) (w : World) : ∀ x, x ∈ back0 L → moveE.ow w (cMove x) x [] := by
  intro x hx
  refine ow_moveE ?_
  unfold back0 at hx
  rcases List.mem_append.1 hx with h | h
  · obtain ⟨-, rfl⟩ := List.mem_replicate.1 h; exact ⟨by decide, by decide⟩
  · rcases List.mem_cons.1 h with rfl | h
    · exact ⟨by decide, by decide⟩
    · obtain rfl : x = _ := by simpa using h
      exact ⟨by decide, by decide⟩

theorem back1_in (L : Nat) (w : World) : ∀ x, x ∈ back1 L → moveE.ow w (cMove x) x [] := by
  intro x hx
  refine ow_moveE ?_
  unfold back1 at hx
  rcases List.mem_append.1 hx with h | h
  · obtain ⟨-, rfl⟩ := List.mem_replicate.1 h; exact ⟨by decide, by decide⟩
  · rcases List.mem_cons.1 h with rfl | h
    · exact ⟨by decide, by decide⟩
    · obtain rfl : x = _ := by simpa using h
      exact ⟨by decide, by decide⟩

theorem strs_in (l : List ByteArray) (h : ∀ x, x ∈ l → x.size ≤ 1) (w : World) : ∀ x, x ∈ l → strE.ow w [Value.string x] x [] := fun x hx => ⟨⟨rfl, by have := h x hx; simp [maxLen]; omega⟩, rfl⟩

theorem noStr_small (L : Nat) : ∀ x, x ∈ noStr L → x.size ≤ 1 := by
  intro x hx
  unfold noStr at hx
  rcases List.mem_append.1 hx with h | h
  · obtain ⟨-, rfl⟩ := List.mem_replicate.1 h; decide
  · rcases List.mem_cons.1 h with rfl | h
    · decide
    · obtain rfl : x = _ := by simpa using h
      decide

theorem allStr_small (L : Nat) : ∀ x, x ∈ allStr L → x.size ≤ 1 := by
  intro x hx
  unfold allStr at hx
  rcases List.mem_append.1 hx with h | h
  · obtain ⟨a, -, rfl⟩ := List.mem_map.1 h; exact Nat.le_refl _
  · rcases List.mem_cons.1 h with rfl | h
    · decide
    · obtain rfl : x = _ := by simpa using h
      decide

set_option maxHeartbeats 4000000 in
set_option maxRecDepth 100000 in
theorem backWriter_is (x : Writer × Int) (letters : Int) (w : World) (hl : -9223372036854775808 ≤ letters ∧ letters ≤ 9223372036854775807) (hx : backWriter letters = x) :
    Calls Try.prog 12 #[.int .i64 letters] w (MakesC writE x w) := by
  have HX := Lib.hid hx
  clear hx
  go_enter Try.func12, Try.ntmps12
  go_wp2_with fail
  have S := (Star.nil w).alloc (cs := #[.int .i64 0, .int .i64 0, .slice none 0 0, .slice none 0 0]) (ty := 32)
  generalize hW : w.alloc _ = w0 at S ⊢
  clear hW
  refine (isAlphabet_any _ _).mono ?_
  rintro e w1 ⟨rfl, b⟩
  replace S := S.step b
  clear b
  cases h1 : within letters 1 3
  case false =>
    have A0 := S.blk 0 rfl
    have c0 := A0.cell 0 rfl
    have c1 := A0.cell 1 rfl
    have c2 := A0.cell 2 rfl
    have c3 := A0.cell 3 rfl
    have f0 := A0.free
    go_wp2
    generalize hW : (((w1.setCell _ _).setCell _ _).setCell _ _).setCell _ _ = w3
    replace S := S.set4 rfl hW
    have A3 := S.blk 0 rfl
    have q0 := A3.cell 0 rfl
    have q1 := A3.cell 1 rfl
    have q2 := A3.cell 2 rfl
    have q3 := A3.cell 3 rfl
    obtain rfl : x = (default, 2) := by rw [← HX.out]; unfold backWriter; rw [h1]; rfl
    exact bodyPost_ret (v := .tuple #[.agg #[.int .i64 0, .int .i64 0, .slice none 0 0, .slice none 0 0], .int .i64 2]) (by simp [results, Try.results12, go_sem, q0, q1, q2, q3]) rfl (S.flat (ow_Writer_zero _)).done
  have hb := within_true.1 h1
  obtain ⟨L, rfl⟩ : ∃ L : Nat, letters = L := ⟨letters.toNat, by omega⟩
  have HX : Hid (x = (⟨⟨L, 0, [back0 L, back1 L]⟩, [noStr L, allStr L]⟩, 0)) := Lib.hid (by rw [← HX.out]; unfold backWriter; rw [h1]; rfl)
  have hL : L ≤ 3 := by omega
  have hL1 : 1 ≤ L := by omega
  clear h1 hb hl
  have wL : IntKind.i64.wrap ((L : Int) + 2) = (L : Int) + 2 := IntWalk.i64_in _ ⟨by omega, by omega⟩
  have wL1 : IntKind.i64.wrap ((L : Int) + 1) = (L : Int) + 1 := IntWalk.i64_in _ ⟨by omega, by omega⟩
  have hcast : ((L : Int) + 2) = ((L + 2 : Nat) : Int) := by omega
  have HCAST := Lib.hid hcast; clear hcast
  have SA := S.alloc (cs := #[.int .i64 0, .int .i64 1]) (ty := 50)
  have hr0 := (SA.blk 0 rfl).cell 0 rfl
  have hr1 := (SA.blk 0 rfl).cell 1 rfl
  have HR := Lib.hid (repeat_moves ⟨0, 1⟩ w1.heap.size 1 (L + 2) (by omega) _ hr0 hr1)
  clear hr0 hr1
  go_wp2_with fail
  rw [HCAST.out]
  refine HR.out.mono ?_
  rintro e w2 ⟨q1, rfl, hq, lo, b⟩
  replace S := (SA.sel [1]).blocked hq lo b
  clear SA HR hq lo b
  have hlen : (List.replicate (L + 2) (⟨0, 1⟩ : Move)).length = L + 2 := by simp
  obtain ⟨u0, c0⟩ : ∃ u, w2.cell? ⟨q1, (L + 1) * 2, none⟩ = some u := ⟨_, (move_cells (S.blk 0 rfl) (L + 1) (by rw [hlen]; omega)).1⟩
  obtain ⟨u1, c1⟩ : ∃ u, w2.cell? ⟨q1, (L + 1) * 2 + 1, none⟩ = some u := ⟨_, (move_cells (S.blk 0 rfl) (L + 1) (by rw [hlen]; omega)).2⟩
  have cf := (S.blk 0 rfl).free
  go_upto_region 5 with fail
  generalize hW : (w2.setCell _ _).setCell _ _ = w3
  have SB := set_move S (L + 1) (by rw [hlen]; omega) ⟨1, -1⟩
  rw [back0_set] at SB
  replace S : Star w w3 [oB q1 ((back0 L).flatMap cMove) 50, oB w.heap.size [.int .i64 0, .int .i64 0, .slice none 0 0, .slice none 0 0] 32] := by rw [← hW]; exact SB
  clear SB hW c0 c1 cf hlen
  have SA := S.alloc (cs := #[.int .i64 1, .int .i64 (-1)]) (ty := 50)
  have hr0 := (SA.blk 0 rfl).cell 0 rfl
  have hr1 := (SA.blk 0 rfl).cell 1 rfl
  have HR := Lib.hid (repeat_moves ⟨1, (-1)⟩ w3.heap.size 1 (L + 2) (by omega) _ hr0 hr1)
  clear hr0 hr1
  go_wp2_with fail
  rw [HCAST.out]
  refine HR.out.mono ?_
  rintro e w4 ⟨q2, rfl, hq, lo, b⟩
  replace S := (SA.sel [1, 2]).blocked hq lo b
  clear SA HR hq lo b
  have hlen : (List.replicate (L + 2) (⟨1, -1⟩ : Move)).length = L + 2 := by simp
  obtain ⟨u0, c0⟩ : ∃ u, w4.cell? ⟨q2, L * 2, none⟩ = some u := ⟨_, (move_cells (S.blk 0 rfl) L (by rw [hlen]; omega)).1⟩
  obtain ⟨u1, c1⟩ : ∃ u, w4.cell? ⟨q2, L * 2 + 1, none⟩ = some u := ⟨_, (move_cells (S.blk 0 rfl) L (by rw [hlen]; omega)).2⟩
  have cf := (S.blk 0 rfl).free
  go_upto_region 7 with fail
  generalize hW : (w4.setCell _ _).setCell _ _ = w5
  have SB := set_move S L (by rw [hlen]; omega) ⟨-1, 0⟩
  rw [back1_set] at SB
  replace S : Star w w5 [oB q2 ((back1 L).flatMap cMove) 50, oB q1 ((back0 L).flatMap cMove) 50, oB w.heap.size [.int .i64 0, .int .i64 0, .slice none 0 0, .slice none 0 0] 32] := by rw [← hW]; exact SB
  clear SB hW c0 c1 cf hlen
  have S1 := S.lits (E := moveE) (back1 L) cMove (L + 2) (by simp [back1]) rfl (back1_in L _) (by simp [maxLen]; omega)
  have S2 := ((S1.sel [1, 0, 2]).lits (E := moveE) (back0 L) cMove (L + 2) (by simp [back0]) rfl (back0_in L _) (by simp [maxLen]; omega))
  have S3 := S2.alloc (cs := #[.slice (some ⟨q1, 0, none⟩) (L + 2) (L + 2), .slice (some ⟨q2, 0, none⟩) (L + 2) (L + 2)]) (ty := 51)
  have S4 := S3.lit2 rfl
  clear S S1 S2 S3
  go_wp2_with fail
  generalize hW : w5.alloc _ = w6 at S4 ⊢
  clear hW
  refine (nothing_any L hL w6).mono ?_
  rintro e w7 ⟨q3, rfl, hq, lo, b⟩
  have S5 := S4.blocked hq lo b
  clear S4 hq lo b
  go_wp2_with fail
  refine (everyLetter_any L hL w7).mono ?_
  rintro e w8 ⟨q4, rfl, hq, lo, b⟩
  have S6 := S5.blocked hq lo b
  clear S5 hq lo b
  rw [map_flat, noStr_vals] at S6
  have S7 := S6.lits (E := strE) (allStr L) (fun x => [Value.string x]) (L + 2) (by simp [allStr]) rfl (strs_in _ (allStr_small L) _) (by simp [maxLen]; omega)
  have S8 := (S7.sel [1, 0, 2, 3]).lits (E := strE) (noStr L) (fun x => [Value.string x]) (L + 2) (by simp [noStr]) rfl (strs_in _ (noStr_small L) _) (by simp [maxLen]; omega)
  have S9 := (S8.alloc (cs := #[.slice (some ⟨q3, 0, none⟩) (L + 2) (L + 2), .slice (some ⟨q4, 0, none⟩) (L + 2) (L + 2)]) (ty := 56)).lit2 rfl
  clear S6 S7 S8
  have R0 := S9.blk 2 rfl
  have HS := Lib.hid S9; clear S9
  have r0 := fun i v h => R0.cell i (v := v) h
  have c0 := R0.cell 0 rfl
  have c1 := R0.cell 1 rfl
  have c2 := R0.cell 2 rfl
  have c3 := R0.cell 3 rfl
  have ff := R0.free
  clear r0
  go_wp2
  generalize hW : ((((w8.alloc _).setCell _ _).setCell _ _).setCell _ _).setCell _ _ = w9
  have S10 := (HS.out.sel [2, 1, 0]).set4 rfl hW
  have A3 := S10.blk 0 rfl
  have q0 := A3.cell 0 rfl
  have q1 := A3.cell 1 rfl
  have q2 := A3.cell 2 rfl
  have q3 := A3.cell 3 rfl
  have S11 := S10.sel [1, 2]
  have bL : -9223372036854775808 ≤ (L : Int) ∧ (L : Int) ≤ 9223372036854775807 := ⟨by omega, by omega⟩
  obtain rfl := HX.out
  exact bodyPost_ret (v := .tuple #[.agg #[.int .i64 L, .int .i64 0, .slice (some ⟨w5.heap.size, 0, none⟩) 2 2, .slice (some ⟨w8.heap.size, 0, none⟩) 2 2], .int .i64 0]) (by simp [results, Try.results12, go_sem, q0, q1, q2, q3]) rfl (writ_done (x := ⟨⟨L, 0, [back0 L, back1 L]⟩, [noStr L, allStr L]⟩) S11 bL bd0)

end Go.Proofs.Ytmdcoekpmiphjaa
