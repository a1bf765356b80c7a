/-
  The program's everyLetter; two parts in one slice; a pair taken apart.
-/
import Derived.Test.YtfamhnogpcmbmaaGreatDoorBackDefK
namespace Go.Proofs.YtfamhnogpcmbmaaGreatDoor
open Go.RowKit

section
variable {w0 w : World} {ps : List Ob}
/-- Three parts turn into one. -/
theorem Star.join3 {P Q R T : Ob} (S : Star w0 w (P :: Q :: R :: ps)) (h : ∀ f g k, P.holds w f → Q.holds w g → R.holds w k → T.holds w (f ++ (g ++ k))) : Star w0 w (T :: ps) := by
  have S1 : Star w0 w (R :: P :: Q :: ps) := by
    obtain ⟨B, fp, hh, d⟩ := S
    refine ⟨B, fun i => match i with | 0 => fp 2 | 1 => fp 0 | 2 => fp 1 | i + 3 => fp (i + 3), fun i X hX => ?_, fun i j hij hi hj => ?_⟩
    · match i with
      | 0 => exact hh 2 X (by simpa using hX)
      | 1 => exact hh 0 X (by simpa using hX)
      | 2 => exact hh 1 X (by simpa using hX)
      | i + 3 => exact hh (i + 3) X (by simpa using hX)
    · simp only [List.length_cons] at hi hj
      match i, j with
      | 0, 0 => exact absurd rfl hij
      | 0, 1 => exact d 2 0 (by omega) (by simp) (by simp)
      | 0, 2 => exact d 2 1 (by omega) (by simp) (by simp)
      | 0, j + 3 => exact d 2 (j + 3) (by omega) (by simp) (by simp; omega)
      | 1, 0 => exact d 0 2 (by omega) (by simp) (by simp)
      | 1, 1 => exact absurd rfl hij
      | 1, 2 => exact d 0 1 (by omega) (by simp) (by simp)
      | 1, j + 3 => exact d 0 (j + 3) (by omega) (by simp) (by simp; omega)
      | 2, 0 => exact d 1 2 (by omega) (by simp) (by simp)
      | 2, 1 => exact d 1 0 (by omega) (by simp) (by simp)
      | 2, 2 => exact absurd rfl hij
      | 2, j + 3 => exact d 1 (j + 3) (by omega) (by simp) (by simp; omega)
      | i + 3, 0 => exact d (i + 3) 2 (by omega) (by simp; omega) (by simp)
      | i + 3, 1 => exact d (i + 3) 0 (by omega) (by simp; omega) (by simp)
      | i + 3, 2 => exact d (i + 3) 1 (by omega) (by simp; omega) (by simp)
      | i + 3, j + 3 => exact d (i + 3) (j + 3) (by omega) (by simp; omega) (by simp; omega)
  obtain ⟨B, fp, hh, d⟩ := S1
  obtain ⟨r1, r2, r3⟩ := hh 0 R rfl
  obtain ⟨p1, p2, p3⟩ := hh 1 P rfl
  obtain ⟨q1, q2, q3⟩ := hh 2 Q rfl
  have hd0 : ∀ i, i < ps.length → Dj (fp 1 ++ (fp 2 ++ fp 0)) (fp (i + 3)) := by
    intro i hi b hb1 hb2
    rcases List.mem_append.1 hb1 with h1 | h1
    · exact d 1 (i + 3) (by omega) (by simp) (by simpa using hi) b h1 hb2
    · rcases List.mem_append.1 h1 with h1 | h1
      · exact d 2 (i + 3) (by omega) (by simp) (by simpa using hi) b h1 hb2
      · exact d 0 (i + 3) (by omega) (by simp) (by simpa using hi) b h1 hb2
  refine ⟨B, fun i => match i with | 0 => fp 1 ++ (fp 2 ++ fp 0) | i + 1 => fp (i + 3), fun i X hX => ?_, fun i j hij hi hj => ?_⟩
  · cases i with
    | zero =>
      obtain rfl : T = X := by simpa using hX
      refine ⟨h _ _ _ p1 q1 r1, Dj.nodup ?_ p2 (Dj.nodup (d 2 0 (by omega) (by simp) (by simp)) q2 r2), fun b hm => ?_⟩
      · intro b hb hb2
        rcases List.mem_append.1 hb2 with h1 | h1
        · exact d 1 2 (by omega) (by simp) (by simp) b hb h1
        · exact d 1 0 (by omega) (by simp) (by simp) b hb h1
      · rcases List.mem_append.1 hm with h1 | h1
        · exact p3 b h1
        · rcases List.mem_append.1 h1 with h1 | h1
          · exact q3 b h1
          · exact r3 b h1
    | succ i => exact hh (i + 3) X (by simpa using hX)
  · cases i with
    | zero =>
      cases j with
      | zero => exact absurd rfl hij
      | succ j => exact hd0 j (by simpa using hj)
    | succ i =>
      cases j with
      | zero => exact (hd0 i (by simpa using hi)).symm
      | succ j => exact d (i + 3) (j + 3) (by omega) (by simpa using hi) (by simpa using hj)

/-- A slice of two elements that have just been made themselves. -/
theorem Star.lit2 {α : Type} {E : Enc α} {ty : TypeId} {g : Nat} {v1 v2 : Value} {x y : α} (S : Star w0 w (oB g [v1, v2] ty :: oE E [v1] x :: oE E [v2] y :: ps)) (hE : E.size = 1) : Star w0 w (oE (sliceE E ty) [.slice (some ⟨g, 0, none⟩) 2 2] [x, y] :: ps) :=
  S.join3 fun f h k hf hh hk => by
    obtain ⟨hb, rfl⟩ := hf
    refine ⟨_, [[v1], [v2]], [h, k], rfl, .cons hh (.cons hk .nil), ?_, by simp [Value.ownBlock]⟩
    exact ⟨by simp [hE], .inr ⟨g, 2, #[v1, v2], rfl, Nat.zero_le _, hb, by simp, by simp [maxLen], by simp [hE], by simp [hE]⟩⟩

/-- A pair taken apart. -/
theorem Star.unpair {α β : Type} {E : Enc α} {F : Enc β} {v1 v2 : Value} {x : α} {y : β} (S : Star w0 w (oE (pairE E F) [v1, v2] (x, y) :: ps)) (hE : E.size = 1) : Star w0 w (oE E [v1] x :: oE F [v2] y :: ps) := by
  obtain ⟨B, fp, hh, d⟩ := S
  obtain ⟨p1, p2, p3⟩ := hh 0 _ rfl
  obtain ⟨c1, c2, f1, f2, hc, hf, o1, o2⟩ := p1
  have l1 := E.rd_len (E.rd_ow o1)
  rw [hE] at l1
  obtain ⟨u, rfl⟩ := one_of l1
  have hc' : u = v1 ∧ c2 = [v2] := by
    simp at hc
    exact ⟨hc.1.symm, hc.2.symm⟩
  obtain ⟨rfl, rfl⟩ := hc'
  rw [hf] at p2 p3
  obtain ⟨n1, n2, n12⟩ := List.nodup_append.1 p2
  have d12 : Dj f1 f2 := fun b hb hb2 => n12 b hb b hb2 rfl
  have e0 : ∀ i, i < ps.length → Dj (fp 0) (fp (i + 1)) := fun i hi => d 0 (i + 1) (by omega) (by simp) (by simpa using hi)
  have e1 : ∀ i, i < ps.length → Dj f1 (fp (i + 1)) := fun i hi b hb => e0 i hi b (by rw [hf]; exact List.mem_append_left _ hb)
  have e2 : ∀ i, i < ps.length → Dj f2 (fp (i + 1)) := fun i hi b hb => e0 i hi b (by rw [hf]; exact List.mem_append_right _ hb)
  refine ⟨B, fun i => match i with | 0 => f1 | 1 => f2 | i + 2 => fp (i + 1), fun i X hX => ?_, fun i j hij hi hj => ?_⟩
  · match i with
    | 0 => obtain rfl : _ = X := by simpa using hX
           exact ⟨o1, n1, fun b hb => p3 b (List.mem_append_left _ hb)⟩
    | 1 => obtain rfl : _ = X := by simpa using hX
           exact ⟨o2, n2, fun b hb => p3 b (List.mem_append_right _ hb)⟩
    | i + 2 => exact hh (i + 1) X (by simpa using hX)
  · simp only [List.length_cons] at hi hj
    match i, j with
    | 0, 0 => exact absurd rfl hij
    | 0, 1 => exact d12
    | 0, j + 2 => exact e1 j (by omega)
    | 1, 0 => exact d12.symm
    | 1, 1 => exact absurd rfl hij
    | 1, j + 2 => exact e2 j (by omega)
    | i + 2, 0 => exact (e1 i (by omega)).symm
    | i + 2, 1 => exact (e2 i (by omega)).symm
    | i + 2, j + 2 => exact d (i + 1) (j + 1) (by omega) (by simp; omega) (by simp; omega)
end

/-- The letters' texts in the making: k of L laid. -/
def letC (L k : Nat) : List Value := (List.range (L + 2)).map fun a => if a < k then .string (letter a) else .string ⟨#[]⟩

theorem letC_zero (L : Nat) : List.replicate (L + 2) (Value.string ⟨#[]⟩) = letC L 0 := by
  apply List.ext_getElem (by simp [letC])
  intro i h1 h2
  simp [letC]

theorem letC_set (L k : Nat) : (letC L k).set k (.string (letter k)) = letC L (k + 1) := by
  unfold letC
  apply List.ext_getElem (by simp)
  intro i h1 h2
  simp [List.getElem_set]
  by_cases h : k = i
  · subst h; simp
  · rw [if_neg h]
    by_cases h3 : i < k
    · rw [if_pos h3, if_pos (by omega)]
    · rw [if_neg h3, if_neg (by omega)]

theorem letC_done (L : Nat) : letC L L = (allStr L).map .string := by
  unfold letC allStr
  apply List.ext_getElem (by simp)
  intro i h1 h2
  simp only [List.getElem_map, List.getElem_range]
  by_cases h : i < L
  · rw [if_pos h, List.getElem_append_left (by simpa using h)]; simp
  · rw [if_neg h, List.getElem_append_right (by simpa using h)]
    have : i - L = 0 ∨ i - L = 1 := by simp [letC] at h1; omega
    rcases this with e | e <;> simp [e]

theorem letter_size (a : Nat) : (letter a).size = 1 := rfl

end Go.Proofs.YtfamhnogpcmbmaaGreatDoor
