/-
  wordsOf: every word of a length is handed to a function, until it says stop.
-/
import Derived.Test.YtjochoghmpcgdaaDoorDigsK
import Derived.Test.YtjochoghmpcgdaaDoorRepBK
import Derived.Test.YtjochoghmpcgdaaDoorCalmK
namespace Go.Proofs.YtjochoghmpcgdaaDoor
open Go.RowKit

theorem Star.reindex {w0 w : World} {ps qs : List Ob} (S : Star w0 w ps) (σ : Nat → Nat) (h : ∀ i Q, qs[i]? = some Q → ps[σ i]? = some Q) (inj : ∀ i j, i < qs.length → j < qs.length → i ≠ j → σ i ≠ σ j) : Star w0 w qs := by
  obtain ⟨B, fp, hh, d⟩ := S
  have hl : ∀ i, i < qs.length → σ i < ps.length := fun i hi => (List.getElem?_eq_some_iff.1 (h i _ (List.getElem?_eq_getElem hi))).1
  exact ⟨B, fun i => fp (σ i), fun i Q hQ => hh _ Q (h i Q hQ), fun i j hij hi hj => d _ _ (inj i j hi hj hij) (hl i hi) (hl j hj)⟩

theorem Star.mid {w0 w : World} {P : Ob} {xs ps : List Ob} (S : Star w0 w (P :: (xs ++ ps))) : Star w0 w (xs ++ P :: ps) :=
  S.reindex (fun i => if i < xs.length then i + 1 else if i = xs.length then 0 else i) (fun i Q hQ => by
    by_cases h1 : i < xs.length
    · rw [List.getElem?_append_left h1] at hQ
      rw [if_pos h1, List.getElem?_cons_succ, List.getElem?_append_left h1]
      exact hQ
    · rw [List.getElem?_append_right (by omega)] at hQ
      rw [if_neg h1]
      by_cases h2 : i = xs.length
      · rw [if_pos h2]
        rw [h2, Nat.sub_self] at hQ
        exact hQ
      · rw [if_neg h2]
        obtain ⟨k, hk⟩ : ∃ k, i = xs.length + (k + 1) := ⟨i - xs.length - 1, by omega⟩
        rw [hk, Nat.add_sub_cancel_left, List.getElem?_cons_succ] at hQ
        rw [hk, ← Nat.add_assoc, List.getElem?_cons_succ, List.getElem?_append_right (by omega), Nat.add_sub_cancel_left]
        exact hQ) (fun i j hi hj hij => by
    split <;> split <;> (try split) <;> (try split) <;> omega)

theorem Star.mid' {w0 w : World} {P : Ob} {xs ps : List Ob} (S : Star w0 w (xs ++ P :: ps)) : Star w0 w (P :: (xs ++ ps)) :=
  S.reindex (fun i => if i = 0 then xs.length else if i ≤ xs.length then i - 1 else i) (fun i Q hQ => by
    by_cases h1 : i = 0
    · subst h1
      rw [if_pos rfl, List.getElem?_append_right (Nat.le_refl _), Nat.sub_self]
      exact hQ
    · obtain ⟨k, rfl⟩ : ∃ k, i = k + 1 := ⟨i - 1, by omega⟩
      rw [List.getElem?_cons_succ] at hQ
      rw [if_neg h1]
      by_cases h2 : k + 1 ≤ xs.length
      · rw [if_pos h2, Nat.add_sub_cancel, List.getElem?_append_left (by omega)]
        rw [List.getElem?_append_left (by omega)] at hQ
        exact hQ
      · rw [if_neg h2, List.getElem?_append_right (by omega)]
        rw [List.getElem?_append_right (by omega)] at hQ
        obtain ⟨j, hj⟩ : ∃ j, k = xs.length + j := ⟨k - xs.length, by omega⟩
        rw [hj, Nat.add_sub_cancel_left] at hQ
        rw [hj, Nat.add_assoc, Nat.add_sub_cancel_left, List.getElem?_cons_succ]
        exact hQ) (fun i j hi hj hij => by
    split <;> split <;> (try split) <;> (try split) <;> omega)

def scanW {σ : Type} (step : List UInt8 → σ → σ × Bool) : List (List UInt8) → σ → σ × Bool
  | [], s => (s, false)
  | x :: r, s => if (step x s).2 = true then ((step x s).1, true) else scanW step r (step x s).1

def bytesV (l : List UInt8) : List Value := l.map fun b => .int .u8 (b.toNat : Nat)

/-- The number that a row of letters stands for. -/
def numV (c : Nat) (l : List Value) : Nat := l.foldl (fun a v => a * c + ((intOf v).toNat - 97)) 0
def rowAt (w : World) (q : Nat) : List Value := match w.heap[q]? with
  | some (.cells a _ _) => a.toList
  | _ => []

theorem numV_digs {c : Nat} (hc : 1 ≤ c ∧ c ≤ 3) : ∀ n k, k < (wordsN c n).length → numV c (bytesV (digs c n k)) = k
  | 0, k, h => by
    have h0 : k = 0 := by have h2 : k < 1 := h; omega
    subst h0
    rfl
  | n + 1, k, h => by
    rw [wordsN_len] at h
    have hk : k / c < (wordsN c n).length := by rw [Nat.div_lt_iff_lt_mul (by omega)]; exact h
    have ih := numV_digs hc n (k / c) hk
    have hm := Nat.mod_lt k (show 0 < c by omega)
    have e : (UInt8.ofNat (97 + k % c)).toNat = 97 + k % c := by rw [UInt8.toNat_ofNat']; exact Nat.mod_eq_of_lt (by omega)
    unfold numV bytesV at ih ⊢
    rw [digs_last, List.map_append, List.foldl_append, ih]
    show k / c * c + ((((UInt8.ofNat (97 + k % c)).toNat : Nat) : Int).toNat - 97) = k
    rw [Int.toNat_natCast, e, Nat.add_sub_cancel_left, Nat.mul_comm]
    exact Nat.div_add_mod k c

end Go.Proofs.YtjochoghmpcgdaaDoor
