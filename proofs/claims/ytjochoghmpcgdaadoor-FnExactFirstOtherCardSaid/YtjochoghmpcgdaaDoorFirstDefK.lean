/-
  All words up to a length, and the first on which two writers differ, in plain words.
-/
import Derived.Test.YtjochoghmpcgdaaDoorWrtDefK
namespace Go.Proofs.YtjochoghmpcgdaaDoor
open Go.RowKit

/-- All words up to a length: shorter ones first. -/
def allW (c N : Nat) : List (List UInt8) := (List.range (N + 1)).flatMap (wordsN c)

theorem flatMap_clen {α β : Type} (f : α → List β) (c : Nat) (h : ∀ x, (f x).length = c) : ∀ l : List α, (l.flatMap f).length = l.length * c
  | [] => by simp
  | x :: r => by rw [List.flatMap_cons, List.length_append, h, flatMap_clen f c h r, List.length_cons, Nat.add_mul, Nat.one_mul, Nat.add_comm]

theorem wordsN_len (c n : Nat) : (wordsN c (n + 1)).length = (wordsN c n).length * c := flatMap_clen _ c (fun w => by simp) (wordsN c n)

theorem allW_succ (c N : Nat) : allW c (N + 1) = allW c N ++ wordsN c (N + 1) := by
  unfold allW
  rw [List.range_succ, List.flatMap_append]
  simp

theorem allW_zero (c : Nat) : allW c 0 = [[]] := rfl

theorem allW_len_succ (c N : Nat) : (allW c (N + 1)).length = (allW c N).length + (wordsN c (N + 1)).length := by rw [allW_succ, List.length_append]

theorem allW_mono (c : Nat) {a b : Nat} (h : a ≤ b) : (allW c a).length ≤ (allW c b).length := by
  induction b with
  | zero => rw [Nat.le_zero.1 h]; exact Nat.le_refl _
  | succ b ih =>
    by_cases hb : a ≤ b
    · rw [allW_len_succ]; exact Nat.le_trans (ih hb) (Nat.le_add_right _ _)
    · rw [show a = b + 1 from by omega]; exact Nat.le_refl _

theorem wordsN_le (c N : Nat) : (wordsN c N).length ≤ (allW c N).length := by
  cases N with
  | zero => exact Nat.le_refl _
  | succ N => rw [allW_len_succ]; exact Nat.le_add_left _ _

theorem wordsN_ok (c : Nat) (hc : c ≤ 3) : ∀ n x, x ∈ wordsN c n → wordOk c x ∧ x.length = n
  | 0, x, h => by
    rw [show wordsN c 0 = [[]] from rfl, List.mem_singleton] at h
    subst h
    exact ⟨fun b hb => (by cases hb), rfl⟩
  | n + 1, x, h => by
    unfold wordsN at h
    obtain ⟨y, hy, hx⟩ := List.mem_flatMap.1 h
    obtain ⟨a, ha, rfl⟩ := List.mem_map.1 hx
    obtain ⟨h1, h2⟩ := wordsN_ok c hc n y hy
    have ha2 := List.mem_range.1 ha
    refine ⟨fun b hb => ?_, by rw [List.length_append, h2]; rfl⟩
    rcases List.mem_append.1 hb with hb | hb
    · exact h1 b hb
    · rw [List.mem_singleton.1 hb]
      have : (UInt8.ofNat (97 + a)).toNat = 97 + a := by rw [UInt8.toNat_ofNat']; exact Nat.mod_eq_of_lt (by omega)
      omega

/-- The first word on which two writers differ. -/
def scanO (u v : Writer) : List (List UInt8) → ByteArray × Int
  | [] => (⟨#[]⟩, 6)
  | x :: r => if (writtenT u x).2 = 3 ∨ (writtenT v x).2 = 3 then (⟨#[]⟩, 3) else if writtenT u x ≠ writtenT v x then (⟨x.toArray⟩, 0) else scanO u v r

def firstT (u v : Writer) (N : Int) : ByteArray × Int :=
  if writerOk u = false ∨ writerOk v = false then (⟨#[]⟩, 1) else if u.turner.letters ≠ v.turner.letters ∨ ¬ (0 ≤ N ∧ N ≤ 60) then (⟨#[]⟩, 2)
  else if 2000 < (allW u.turner.letters.toNat N.toNat).length then (⟨#[]⟩, 3) else scanO u v (allW u.turner.letters.toNat N.toNat)

end Go.Proofs.YtjochoghmpcgdaaDoor
