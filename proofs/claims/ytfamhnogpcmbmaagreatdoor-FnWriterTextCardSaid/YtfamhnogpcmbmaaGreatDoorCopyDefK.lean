/-
  CopyWriter: what both answer.
-/
import Derived.Test.YtfamhnogpcmbmaaGreatDoorBackK
import Derived.Test.YtfamhnogpcmbmaaGreatDoorPackA
namespace Go.Proofs.YtfamhnogpcmbmaaGreatDoor
open Go.RowKit

def copyOn (s : Nat) : Move := ⟨s, if s % 2 = 1 then -1 else 1⟩
def copyEnd (T s : Nat) : Move := if s = 2 * T - 2 then ⟨-1, 0⟩ else ⟨(s : Int) + 1, if s % 2 = 1 then 1 else -1⟩
def copyRow (L T s : Nat) : List Move := List.replicate L (copyOn s) ++ (if s % 2 = 1 then [copyEnd T s, copyOn s] else [copyOn s, copyEnd T s])
def copyTxt (L s : Nat) : List ByteArray := if s % 2 = 1 then noStr L else allStr L
def copyRows (L T : Nat) : List (List Move) := (List.range (2 * T - 1)).map (copyRow L T)
def copyTxts (L T : Nat) : List (List ByteArray) := (List.range (2 * T - 1)).map (copyTxt L)
def copyW (L T : Nat) : Writer := ⟨⟨L, 0, copyRows L T⟩, copyTxts L T⟩

/-- A writer, if it is valid. -/
def writOr (w : Writer) : Writer × Int := if writerOk w then (w, 0) else (default, 3)

def copyWriter (letters times : Int) : Writer × Int :=
  if within letters 1 3 && decide (1 ≤ times) then (if 12 < times then (default, 3) else writOr (copyW letters.toNat times.toNat)) else (default, 2)

theorem copy_cnts : ((List.range 4).all fun L => (List.range 13).all fun T => decide (writM.cnt (copyW L T) ≤ 4611686018427387000)) = true := by kernel_rfl

theorem cnt_copyWriter (letters times : Int) : writM.cnt (copyWriter letters times).1 ≤ 4611686018427387000 := by
  unfold copyWriter
  split
  · rename_i h
    rw [Bool.and_eq_true, decide_eq_true_eq] at h
    have h1 := within_true.1 h.1
    split
    · decide
    · unfold writOr
      split
      · have := List.all_eq_true.1 (List.all_eq_true.1 copy_cnts letters.toNat (List.mem_range.2 (by omega))) times.toNat (List.mem_range.2 (by omega))
        simpa using this
      · decide
  · decide

theorem set_last {α : Type} (L : Nat) (x y : α) : (List.replicate (L + 2) x).set (L + 1) y = List.replicate L x ++ [x, y] := by
  apply List.ext_getElem (by simp)
  intro i h1 h2
  simp only [List.getElem_set, List.getElem_replicate]
  by_cases h : L + 1 = i
  · subst h; rw [if_pos rfl, List.getElem_append_right (by simp)]; simp
  · rw [if_neg h]
    by_cases h3 : i < L
    · rw [List.getElem_append_left (by simpa using h3)]; simp
    · have e : i = L := by simp at h1; omega
      subst e
      rw [List.getElem_append_right (by simp)]; simp

theorem set_prev {α : Type} (L : Nat) (x y : α) : (List.replicate (L + 2) x).set L y = List.replicate L x ++ [y, x] := by
  apply List.ext_getElem (by simp)
  intro i h1 h2
  simp only [List.getElem_set, List.getElem_replicate]
  by_cases h : L = i
  · subst h; rw [if_pos rfl, List.getElem_append_right (by simp)]; simp
  · rw [if_neg h]
    by_cases h3 : i < L
    · rw [List.getElem_append_left (by simpa using h3)]; simp
    · have e : i = L + 1 := by simp at h1; omega
      subst e
      rw [List.getElem_append_right (by simp)]; simp

theorem copyEnd_bd (T s : Nat) (hs : s ≤ 23) : (-1 ≤ (copyEnd T s).to ∧ (copyEnd T s).to ≤ 30) ∧ (-1 ≤ (copyEnd T s).dir ∧ (copyEnd T s).dir ≤ 1) := by
  unfold copyEnd
  split
  · exact ⟨by decide, by decide⟩
  · refine ⟨⟨?_, ?_⟩, ?_⟩
    · show (-1 : Int) ≤ (s : Int) + 1; omega
    · show (s : Int) + 1 ≤ 30; omega
    · show (-1 : Int) ≤ (if s % 2 = 1 then (1 : Int) else -1) ∧ (if s % 2 = 1 then (1 : Int) else -1) ≤ 1
      split <;> decide

theorem copyRow_in (L T s : Nat) (hs : s ≤ 23) (w : World) : ∀ x, x ∈ copyRow L T s → moveE.ow w (cMove x) x [] := by
  intro x hx
  refine ow_moveE ?_
  have on : (-9223372036854775808 ≤ (copyOn s).to ∧ (copyOn s).to ≤ 9223372036854775807) ∧ (-9223372036854775808 ≤ (copyOn s).dir ∧ (copyOn s).dir ≤ 9223372036854775807) := by
    unfold copyOn
    refine ⟨⟨?_, ?_⟩, ?_⟩
    · show (-9223372036854775808 : Int) ≤ (s : Int); omega
    · show (s : Int) ≤ 9223372036854775807; omega
    · show (-9223372036854775808 : Int) ≤ (if s % 2 = 1 then (-1 : Int) else 1) ∧ (if s % 2 = 1 then (-1 : Int) else 1) ≤ 9223372036854775807
      split <;> decide
  have en := copyEnd_bd T s hs
  unfold copyRow at hx
  rcases List.mem_append.1 hx with h | h
  · obtain ⟨-, rfl⟩ := List.mem_replicate.1 h; exact on
  · have : x = copyOn s ∨ x = copyEnd T s := by
      split at h
      · rcases List.mem_cons.1 h with h | h
        · exact .inr h
        · exact .inl (by simpa using h)
      · rcases List.mem_cons.1 h with h | h
        · exact .inl h
        · exact .inr (by simpa using h)
    rcases this with rfl | rfl
    · exact on
    · exact ⟨⟨by omega, by omega⟩, ⟨by omega, by omega⟩⟩

theorem copyTxt_small (L s : Nat) : ∀ x, x ∈ copyTxt L s → x.size ≤ 1 := by
  unfold copyTxt
  split
  · exact noStr_small L
  · exact allStr_small L

end Go.Proofs.YtfamhnogpcmbmaaGreatDoor
