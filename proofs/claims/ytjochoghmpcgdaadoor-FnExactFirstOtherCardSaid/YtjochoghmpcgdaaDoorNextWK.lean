/-
  The successor of a word, letter by letter from the right.
-/
import Derived.Test.YtjochoghmpcgdaaDoorWordsOfK
namespace Go.Proofs.YtjochoghmpcgdaaDoor

structure NextI (c len k n m : Nat) (row : List UInt8) : Prop where
  le : n ≤ len
  row : row = digs c n m ++ List.replicate (len - n) 97
  nxt : digs c n (m + 1) ++ List.replicate (len - n) 97 = digs c len (k + 1)
  lt : m < (wordsN c n).length
  iff : m + 1 < (wordsN c n).length ↔ k + 1 < (wordsN c len).length

theorem NextI.start {c len k : Nat} (hk : k < (wordsN c len).length) : NextI c len k len k (digs c len k) :=
  ⟨Nat.le_refl _, by rw [Nat.sub_self]; simp, by rw [Nat.sub_self]; simp, hk, Iff.rfl⟩

theorem NextI.stop {c len k m : Nat} {row : List UInt8} (h : NextI c len k 0 m row) : ¬ k + 1 < (wordsN c len).length := fun h2 => by
  have h1 : m + 1 < 1 := h.iff.2 h2
  omega

theorem NextI.at {c len k n m : Nat} {row : List UInt8} (h : NextI c len k (n + 1) m row) : row[n]? = some (UInt8.ofNat (97 + m % c)) := by
  rw [h.row, digs_last, List.append_assoc, List.getElem?_append_right (by rw [digs_len]; exact Nat.le_refl _), digs_len, Nat.sub_self]
  rfl

theorem set_mid {α : Type} (a : List α) (x y : α) (r : List α) : (a ++ x :: r).set a.length y = a ++ y :: r := by
  rw [List.set_append_right _ _ (Nat.le_refl _), Nat.sub_self]
  rfl

theorem NextI.len {c len k n m : Nat} {row : List UInt8} (h : NextI c len k n m row) : row.length = len := by
  rw [h.row, List.length_append, digs_len, List.length_replicate]
  have := h.le
  omega

theorem NextI.back {c len k n m : Nat} {row : List UInt8} (hc : 1 ≤ c) (h : NextI c len k (n + 1) m row) (hd : m % c = c - 1) : NextI c len k n (m / c) (row.set n 97) := by
  have e : m + 1 = (m / c + 1) * c := by
    have := Nat.div_add_mod m c
    rw [Nat.add_mul, Nat.one_mul, Nat.mul_comm]
    omega
  have e1 : (m + 1) / c = m / c + 1 := by rw [e]; exact Nat.mul_div_cancel _ hc
  have e2 : (m + 1) % c = 0 := by rw [e]; exact Nat.mul_mod_left _ _
  have hle := h.le
  have hr : List.replicate (len - n) (97 : UInt8) = 97 :: List.replicate (len - (n + 1)) 97 := by rw [show len - n = (len - (n + 1)) + 1 from by omega]; rfl
  have hlt : m / c < (wordsN c n).length := by
    have h1 := h.lt
    rw [wordsN_len] at h1
    rw [Nat.div_lt_iff_lt_mul hc]; exact h1
  refine ⟨by omega, ?_, ?_, hlt, ?_⟩
  · rw [h.row, digs_last, List.append_assoc, hr]
    have := set_mid (digs c n (m / c)) (UInt8.ofNat (97 + m % c)) 97 (List.replicate (len - (n + 1)) 97)
    rw [digs_len] at this
    exact this
  · have h2 := h.nxt
    rw [digs_last, e1, e2, List.append_assoc] at h2
    rw [hr]
    exact h2
  · rw [← h.iff, wordsN_len, e]
    constructor
    · intro h1; exact Nat.mul_lt_mul_of_pos_right h1 hc
    · intro h1; exact Nat.lt_of_mul_lt_mul_right h1

theorem NextI.inc {c len k n m : Nat} {row : List UInt8} (hc : 1 ≤ c) (h : NextI c len k (n + 1) m row) (hd : m % c ≠ c - 1) : row.set n (UInt8.ofNat (97 + (m % c + 1))) = digs c len (k + 1) ∧ k + 1 < (wordsN c len).length := by
  have hm := Nat.mod_lt m hc
  have hdm := Nat.div_add_mod m c
  have e : m + 1 = m / c * c + (m % c + 1) := by rw [Nat.mul_comm]; omega
  have e1 : (m + 1) / c = m / c := by
    rw [e, Nat.add_comm, Nat.add_mul_div_right _ _ hc, Nat.div_eq_of_lt (show m % c + 1 < c by omega), Nat.zero_add]
  have e2 : (m + 1) % c = m % c + 1 := by
    rw [e, Nat.add_comm, Nat.add_mul_mod_self_right, Nat.mod_eq_of_lt (show m % c + 1 < c by omega)]
  have h2 := h.nxt
  rw [digs_last, e1, e2, List.append_assoc] at h2
  refine ⟨?_, ?_⟩
  · rw [h.row, digs_last, List.append_assoc, ← h2]
    have := set_mid (digs c n (m / c)) (UInt8.ofNat (97 + m % c)) (UInt8.ofNat (97 + (m % c + 1))) (List.replicate (len - (n + 1)) 97)
    rw [digs_len] at this
    exact this
  · rw [← h.iff, wordsN_len]
    have h1 := h.lt
    rw [wordsN_len] at h1
    have h3 : m / c < (wordsN c n).length := by rw [Nat.div_lt_iff_lt_mul hc]; exact h1
    have h4 : (m / c + 1) * c ≤ (wordsN c n).length * c := Nat.mul_le_mul_right c h3
    rw [Nat.add_mul, Nat.one_mul] at h4
    omega

theorem bytesV_set (l : List UInt8) (n : Nat) (b : UInt8) : (bytesV l).set n (Go.Value.int .u8 (b.toNat : Nat)) = bytesV (l.set n b) := by
  unfold bytesV
  rw [List.map_set]

end Go.Proofs.YtjochoghmpcgdaaDoor
