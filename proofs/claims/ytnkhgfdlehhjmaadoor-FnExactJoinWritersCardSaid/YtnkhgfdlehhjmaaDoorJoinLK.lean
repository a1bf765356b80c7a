/-
  Plain lemmas for JoinWriters: a list half changed, the joined row.
-/
import Derived.Test.YtnkhgfdlehhjmaaDoorJoinAidK
namespace Go.Proofs.YtnkhgfdlehhjmaaDoor
open Go.RowKit

section
variable {α : Type} (F : Nat → α) (ws vs : List α) (j : Nat)
theorem jmix_len (hj : j ≤ ws.length) : ((List.range j).map F ++ ws.drop j ++ vs).length = ws.length + vs.length := by
  simp only [List.length_append, List.length_map, List.length_range, List.length_drop]; omega
theorem jmix_get (hj : j < ws.length) : ((List.range j).map F ++ ws.drop j ++ vs)[j]? = some ws[j] := by
  rw [List.append_assoc, List.getElem?_append_right (by simp), List.length_map, List.length_range, Nat.sub_self, List.drop_eq_getElem_cons hj]
  rfl
theorem jmix_set (hj : j < ws.length) : ((List.range j).map F ++ ws.drop j ++ vs).set j (F j) = (List.range (j + 1)).map F ++ ws.drop (j + 1) ++ vs := by
  rw [List.append_assoc, List.set_append_right _ _ (by simp), List.length_map, List.length_range, Nat.sub_self, List.drop_eq_getElem_cons hj, List.cons_append, List.set_cons_zero, List.range_succ, List.map_append, List.append_assoc, List.append_assoc]
  rfl
theorem jmix_same (hj : j < ws.length) (h : F j = ws[j]) : (List.range (j + 1)).map F ++ ws.drop (j + 1) ++ vs = (List.range j).map F ++ ws.drop j ++ vs := by
  rw [List.drop_eq_getElem_cons hj, List.range_succ, List.map_append, ← h]
  simp
theorem jmix_all (hj : j = ws.length) : (List.range j).map F ++ ws.drop j ++ vs = (List.range ws.length).map F ++ vs := by
  subst hj
  rw [List.drop_length, List.append_nil]
end

/-- What a call holds, with what it has made since. -/
theorem Star.merge {w0 w1 w2 : World} {ps qs : List Ob} (S : Star w0 w1 ps) (T : Star w1 w2 qs) : Star w0 w2 (qs ++ ps) := by
  obtain ⟨B, fp, h, d⟩ := S
  obtain ⟨B', fq, h', d'⟩ := T
  refine ⟨B.trans (B'.mono B.size), fun i => if i < qs.length then fq i else fp (i - qs.length), fun i P hP => ?_, fun i j hij hi hj => ?_⟩
  · by_cases hi : i < qs.length
    · rw [List.getElem?_append_left hi] at hP
      obtain ⟨k1, k2, k3⟩ := h' i P hP
      simp only [if_pos hi]
      exact ⟨k1, k2, fun b hb => ⟨Nat.le_trans B.size (k3 b hb).1, (k3 b hb).2⟩⟩
    · rw [List.getElem?_append_right (by omega)] at hP
      obtain ⟨k1, k2, k3⟩ := h _ P hP
      simp only [if_neg hi]
      exact ⟨P.frame (fun b hb => B'.block b (k3 b hb).2) k1, k2, fun b hb => ⟨(k3 b hb).1, Nat.lt_of_lt_of_le (k3 b hb).2 B'.size⟩⟩
  · rw [List.length_append] at hi hj
    have key : ∀ a b, a < qs.length → b < ps.length → Dj (fq a) (fp b) := fun a b ha hb x hx hy => by
      have h1 := ((h' a _ (List.getElem?_eq_getElem ha)).2.2 x hx).1
      have h2 := ((h b _ (List.getElem?_eq_getElem hb)).2.2 x hy).2
      omega
    by_cases h1 : i < qs.length <;> by_cases h2 : j < qs.length
    · simp only [if_pos h1, if_pos h2]; exact d' i j hij h1 h2
    · simp only [if_pos h1, if_neg h2]; exact key _ _ h1 (by omega)
    · simp only [if_neg h1, if_pos h2]; exact (key _ _ h2 (by omega)).symm
    · simp only [if_neg h1, if_neg h2]; exact d _ _ (by omega) (by omega) (by omega)

theorem thenTurner_letters {t u : Turner} (h : (thenTurner t u).2 = 0) : t.letters = u.letters := by
  unfold thenTurner at h
  split at h
  · split at h
    · assumption
    · cases h
  · cases h

theorem outOk_size {b : ByteArray} (h : outOk b = true) : b.size ≤ 3 := by
  unfold outOk at h
  rw [Bool.and_eq_true, decide_eq_true_eq] at h
  exact h.1

theorem turn_rd {w : World} {B : Nat} {v2 : Value} {r : Turner} (b0 : -9223372036854775808 ≤ r.letters ∧ r.letters ≤ 9223372036854775807) (b1 : -9223372036854775808 ≤ r.start ∧ r.start ≤ 9223372036854775807) (h : movessE.rd w B [v2] r.moves) :
    turnE.rd w B [.int .i64 r.letters, .int .i64 r.start, v2] r := ⟨[_], [_, v2], rfl, ⟨rfl, b0⟩, ⟨[_], [v2], rfl, ⟨rfl, b1⟩, h⟩⟩

theorem home_vals (n c : Nat) (b : ByteArray) : (List.replicate n (Value.string ⟨#[]⟩)).set c (.string b) = ((List.replicate n (⟨#[]⟩ : ByteArray)).set c b).flatMap fun x => [Value.string x] := by
  have h : ∀ l : List ByteArray, l.map Value.string = l.flatMap fun x => [Value.string x] := by
    intro l
    induction l with
    | nil => rfl
    | cons a l ih => rw [List.map_cons, List.flatMap_cons, ih]; rfl
  rw [← h, List.map_set, List.map_replicate]

theorem home_in (n c : Nat) (b : ByteArray) (hb : b.size ≤ 1000) (w : World) : ∀ x, x ∈ (List.replicate n (⟨#[]⟩ : ByteArray)).set c b → strE.ow w [Value.string x] x [] := by
  intro x hx
  rcases List.mem_or_eq_of_mem_set hx with h | rfl
  · obtain ⟨-, rfl⟩ := List.mem_replicate.1 h
    exact ⟨⟨rfl, Nat.zero_le _⟩, rfl⟩
  · exact ⟨⟨rfl, by simp [maxLen]; omega⟩, rfl⟩

theorem joinWriters_eq {u v : Writer} (h1 : writerOk u = true) (h2 : writerOk v = true) : joinWriters u v = (if (thenTurner u.turner v.turner).2 = 0 then (if writerOk (joinW u v) then (joinW u v, 0) else (default, 3)) else (default, (thenTurner u.turner v.turner).2)) := by
  unfold joinWriters; rw [h1, h2]; rfl

end Go.Proofs.YtnkhgfdlehhjmaaDoor
