/-
  What the law FnFirstOther goes through, word by word, in plain words.
-/
import Derived.Test.YtjochoghmpcgdaaDoorLongPK
import Derived.Test.YtjochoghmpcgdaaDoorPackC
namespace Go.Proofs.YtjochoghmpcgdaaDoor
open Go.RowKit

/-- No word on which too much is written. -/
def noLim (u v : Writer) (l : List (List UInt8)) : Prop := ∀ x, x ∈ l → (writtenT u x).2 ≠ 3 ∧ (writtenT v x).2 ≠ 3

theorem scanO_codes (u v : Writer) : ∀ l : List (List UInt8), noLim u v l → (scanO u v l).2 = 0 ∨ scanO u v l = (⟨#[]⟩, 6)
  | [], _ => .inr rfl
  | x :: r, h => by
    have h0 := h x (by simp)
    unfold scanO
    rw [if_neg (fun e => e.elim h0.1 h0.2)]
    by_cases h2 : writtenT u x ≠ writtenT v x
    · rw [if_pos h2]; exact .inl rfl
    · rw [if_neg h2]; exact scanO_codes u v r (fun y hy => h y (by simp [hy]))

theorem scanO_cons {u v : Writer} {y : List UInt8} (r : List (List UInt8)) (h : (writtenT u y).2 ≠ 3 ∧ (writtenT v y).2 ≠ 3) : scanO u v (y :: r) = if writtenT u y ≠ writtenT v y then (⟨y.toArray⟩, 0) else scanO u v r := by
  rw [scanO, if_neg (fun e => e.elim h.1 h.2)]

theorem scanO_snoc (u v : Writer) (x : List UInt8) : ∀ l : List (List UInt8), noLim u v (l ++ [x]) → scanO u v (l ++ [x]) = if (scanO u v l).2 = 0 then scanO u v l else if writtenT u x ≠ writtenT v x then (⟨x.toArray⟩, 0) else (⟨#[]⟩, 6)
  | [], h => by
    show scanO u v [x] = if (scanO u v []).2 = 0 then _ else _
    rw [if_neg (by show ¬ (6 : Int) = 0; decide), scanO_cons [] (h x (by simp))]
    rfl
  | y :: r, h => by
    have h0 := h y (by simp)
    have ih := scanO_snoc u v x r (fun z hz => h z (by simp at hz ⊢; exact .inr hz))
    rw [List.cons_append, scanO_cons _ h0, scanO_cons _ h0, ih]
    by_cases h2 : writtenT u y ≠ writtenT v y
    · rw [if_pos h2, if_pos h2, if_pos rfl]
    · rw [if_neg h2, if_neg h2]

theorem scanS_snoc (u v : Writer) (N : Nat) (x : List UInt8) : ∀ (l : List (List UInt8)) (s : Int × ByteArray), noLim u v (l ++ [x]) →
    scanS u N (l ++ [x]) s = (false, if x.length ≠ N then (scanS u N l s).2 else if (writtenT u x).2 = 0 ∧ (scanS u N l s).2.1 < ((writtenT u x).1.size : Int) then (((writtenT u x).1.size : Int), ⟨x.toArray⟩) else (scanS u N l s).2)
  | [], s, h => by
    have h0 := (h x (by simp)).1
    show scanS u N [x] s = _
    unfold scanS
    by_cases h1 : x.length ≠ N
    · rw [if_pos h1, if_pos h1]; rfl
    · rw [if_neg h1, if_neg h1, if_neg h0]
      by_cases h2 : (writtenT u x).2 = 0 ∧ s.1 < ((writtenT u x).1.size : Int)
      · rw [if_pos h2, if_pos (show _ ∧ _ from h2)]; rfl
      · rw [if_neg h2, if_neg (show ¬ (_ ∧ _) from h2)]; rfl
  | y :: r, s, h => by
    have h0 := (h y (by simp)).1
    have ih := fun s => scanS_snoc u v N x r s (fun z hz => h z (by simp at hz ⊢; exact .inr hz))
    rw [List.cons_append]
    rw [scanS.eq_def u N (y :: (r ++ [x])), scanS.eq_def u N (y :: r)]
    simp only
    by_cases h1 : y.length ≠ N
    · rw [if_pos h1, if_pos h1]; exact ih s
    · rw [if_neg h1, if_neg h1, if_neg h0, if_neg h0]
      by_cases h2 : (writtenT u y).2 = 0 ∧ s.1 < ((writtenT u y).1.size : Int)
      · rw [if_pos h2, if_pos h2]; exact ih _
      · rw [if_neg h2, if_neg h2]; exact ih s

theorem noLim_take {u v : Writer} {l : List (List UInt8)} {k : Nat} (h : noLim u v (l.take k)) (hk : k < l.length) (hx : (writtenT u (l[k]'hk)).2 ≠ 3 ∧ (writtenT v (l[k]'hk)).2 ≠ 3) : noLim u v (l.take (k + 1)) := by
  rw [List.take_succ_eq_append_getElem hk]
  intro y hy
  rcases List.mem_append.1 hy with hy | hy
  · exact h y hy
  · rw [List.mem_singleton.1 hy]; exact hx

end Go.Proofs.YtjochoghmpcgdaaDoor
