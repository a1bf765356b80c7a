/-
  Words in order as numbers: the k-th word of a length, and its successor.
-/
import Derived.Test.YtjochoghmpcgdaaDoorFirstDefK
namespace Go.Proofs.YtjochoghmpcgdaaDoor

def digs (c : Nat) : Nat → Nat → List UInt8
  | 0, _ => []
  | n + 1, k => digs c n (k / c) ++ [UInt8.ofNat (97 + k % c)]

theorem digs_len (c : Nat) : ∀ n k, (digs c n k).length = n
  | 0, _ => rfl
  | n + 1, k => by unfold digs; rw [List.length_append, digs_len c n]; rfl

theorem flatMap_at {α β : Type} (f : α → List β) (c : Nat) (hc : 0 < c) (h : ∀ x, (f x).length = c) : ∀ (l : List α) (k : Nat), (l.flatMap f)[k]? = (l[k / c]?).bind fun x => (f x)[k % c]?
  | [], k => by simp
  | x :: r, k => by
    rw [List.flatMap_cons]
    by_cases hk : k < c
    · rw [List.getElem?_append_left (by rw [h]; exact hk), Nat.div_eq_of_lt hk, Nat.mod_eq_of_lt hk]
      rfl
    · rw [List.getElem?_append_right (by rw [h]; omega), h, flatMap_at f c hc h r (k - c)]
      have e1 : k / c = (k - c) / c + 1 := by rw [← Nat.add_div_right _ hc, Nat.sub_add_cancel (by omega)]
      have e2 : k % c = (k - c) % c := by rw [← Nat.add_mod_right (k - c) c, Nat.sub_add_cancel (by omega)]
      rw [e1, e2, List.getElem?_cons_succ]

theorem wordsN_get (c : Nat) (hc : 0 < c) : ∀ (n k : Nat), k < (wordsN c n).length → (wordsN c n)[k]? = some (digs c n k)
  | 0, k, h => by
    have h0 : k = 0 := by have h2 : k < 1 := h; omega
    subst h0
    rfl
  | n + 1, k, h => by
    rw [wordsN_len] at h
    have hk : k / c < (wordsN c n).length := by
      rw [Nat.div_lt_iff_lt_mul hc]; exact h
    show ((wordsN c n).flatMap fun w => (List.range c).map fun a => w ++ [UInt8.ofNat (97 + a)])[k]? = _
    rw [flatMap_at _ c hc (fun w => by simp), wordsN_get c hc n (k / c) hk]
    show (List.map _ (List.range c))[k % c]? = _
    rw [List.getElem?_map, List.getElem?_range (Nat.mod_lt _ hc)]
    rfl

/-- The state of the search for the next word: j letters on the right are 'a' again. -/
theorem digs_last (c : Nat) (n k : Nat) : (digs c (n + 1) k) = digs c n (k / c) ++ [UInt8.ofNat (97 + k % c)] := rfl

end Go.Proofs.YtjochoghmpcgdaaDoor
