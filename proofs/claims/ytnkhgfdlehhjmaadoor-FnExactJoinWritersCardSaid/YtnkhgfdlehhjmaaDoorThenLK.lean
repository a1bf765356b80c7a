/-
  Plain lemmas: a row of the joined turner, move by move (written by a program of this claim's own, gen_join.py).
-/
import Derived.Test.YtnkhgfdlehhjmaaDoorJoinDefK
namespace Go.Proofs.YtnkhgfdlehhjmaaDoor
open Go.RowKit

def thenCell (c : Nat) (home : Int) (b : Move) (row : List Move) (k : Nat) : Move := if (row[k]?.getD default).to = -1 then (if k = c then b else ⟨home, -1⟩) else row[k]?.getD default

theorem thenRow_len (c : Nat) (home : Int) (b : Move) (row : List Move) : (thenRow c home b row).length = row.length := by
  unfold thenRow
  split
  · rw [List.length_set, List.length_map]
  · rw [List.length_map]

theorem thenRow_get (c : Nat) (home : Int) (b : Move) (row : List Move) (hc : c < row.length) (k : Nat) (hk : k < row.length) : (thenRow c home b row)[k]? = some (thenCell c home b row k) := by
  have hg : (row.map (homeM home))[k]? = some (homeM home (row[k]?.getD default)) := by rw [List.getElem?_map, List.getElem?_eq_getElem hk]; rfl
  unfold thenRow thenCell
  by_cases h1 : (row[c]?.getD default).to = -1
  · rw [if_pos h1]
    by_cases h2 : k = c
    · subst h2
      rw [if_pos h1, if_pos rfl, List.getElem?_set_self (by rw [List.length_map]; exact hk)]
    · rw [List.getElem?_set_ne (Ne.symm h2), hg]
      unfold homeM
      by_cases h3 : (row[k]?.getD default).to = -1
      · rw [if_pos h3, if_pos h3, if_neg h2]
      · rw [if_neg h3, if_neg h3]
  · rw [if_neg h1, hg]
    unfold homeM
    by_cases h3 : (row[k]?.getD default).to = -1
    · by_cases h2 : k = c
      · subst h2; exact absurd h3 h1
      · rw [if_pos h3, if_pos h3, if_neg h2]
    · rw [if_neg h3, if_neg h3]

theorem set_self {α : Type} : ∀ (l : List α) (j : Nat) (x : α), l[j]? = some x → l.set j x = l
  | [], _, _, h => by simp at h
  | a :: l, 0, x, h => by
    obtain rfl : a = x := by simpa using h
    rfl
  | a :: l, j + 1, x, h => by rw [List.set_cons_succ, set_self l j x (by simpa using h)]

section
variable {α : Type} (a b : List α) (k : Nat) (h : a.length = b.length)
include h
theorem half_len : (a.take k ++ b.drop k).length = b.length := by
  rw [List.length_append, List.length_take, List.length_drop]; omega
theorem half_get (hk : k < b.length) : (a.take k ++ b.drop k)[k]? = some b[k] := by
  have h1 : (a.take k).length = k := by rw [List.length_take]; omega
  rw [List.getElem?_append_right (by omega), h1, Nat.sub_self, List.drop_eq_getElem_cons hk]
  rfl
theorem half_set (hk : k < b.length) {y : α} (hy : a[k]? = some y) : (a.take k ++ b.drop k).set k y = a.take (k + 1) ++ b.drop (k + 1) := by
  have h1 : (a.take k).length = k := by rw [List.length_take]; omega
  have hka : k < a.length := by omega
  obtain rfl : a[k] = y := by rw [List.getElem?_eq_getElem hka] at hy; exact Option.some.inj hy
  rw [List.set_append_right _ _ (by omega), h1, Nat.sub_self, List.drop_eq_getElem_cons hk, List.take_succ_eq_append_getElem hka, List.set_cons_zero, List.append_assoc]
  rfl
theorem half_same (hk : k < b.length) (hy : a[k]? = some b[k]) : a.take (k + 1) ++ b.drop (k + 1) = a.take k ++ b.drop k := by
  rw [← half_set a b k h hk hy]
  have h1 : (a.take k).length = k := by rw [List.length_take]; omega
  rw [List.set_append_right _ _ (by omega), h1, Nat.sub_self, List.drop_eq_getElem_cons hk, List.set_cons_zero]
end

end Go.Proofs.YtnkhgfdlehhjmaaDoor
