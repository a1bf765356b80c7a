/-
  What right turners and writers hold (written by a program of this claim's own, gen_text.py).
-/
import Derived.Test.YtodoghidckelcaaGreatDoorWritOkK
namespace Go.Proofs.YtodoghidckelcaaGreatDoor
open Go.RowKit

/-- What a right move holds. -/
def mvOk (m : Move) : Prop := m.to = -1 ∨ m.to = -2 ∨ ((0 ≤ m.to ∧ m.to ≤ 99) ∧ (-1 ≤ m.dir ∧ m.dir ≤ 1))

theorem mvOk_of {m : Move} {n l k : Int} (h : moveOk m n l k = true) (hn : n ≤ 99) : mvOk m := by
  unfold moveOk at h
  rw [Bool.or_eq_true] at h
  rcases h with h | h
  · unfold isStopB at h
    rw [Bool.and_eq_true, Bool.or_eq_true, beq_iff_eq, beq_iff_eq] at h
    rcases h.1 with h | h
    · exact .inl h
    · exact .inr (.inl h)
  · rw [Bool.and_eq_true, Bool.and_eq_true, Bool.and_eq_true] at h
    have h1 := within_true.1 h.1.1.1
    have h2 := within_true.1 h.1.1.2
    exact .inr (.inr ⟨⟨by omega, by omega⟩, h2⟩)

structure TurnOk (t : Turner) : Prop where
  l1 : 1 ≤ t.letters
  l3 : t.letters ≤ 3
  n1 : 1 ≤ t.moves.length
  n12 : t.moves.length ≤ 12
  s0 : 0 ≤ t.start
  s1 : t.start < t.moves.length
  row : ∀ x, x ∈ t.moves → (x.length : Int) = t.letters + 2 ∧ ∀ k, k < x.length → moveOk (x[k]?.getD default) t.moves.length t.letters k = true

theorem turnOk_of {t : Turner} (h : validTurn t = true) : TurnOk t := by
  unfold validTurn at h
  rw [Bool.and_eq_true, Bool.and_eq_true, Bool.and_eq_true] at h
  have h1 := within_true.1 h.1
  have h2 := within_true.1 h.2.1
  have h3 := within_true.1 h.2.2.1
  refine ⟨h1.1, h1.2, by omega, by omega, h3.1, by omega, fun x hx => ?_⟩
  have h4 := List.all_eq_true.1 h.2.2.2 x hx
  unfold mrowOk at h4
  rw [Bool.and_eq_true, decide_eq_true_eq] at h4
  exact ⟨h4.1, fun k hk => List.all_eq_true.1 h4.2 k (List.mem_range.2 hk)⟩

theorem TurnOk.len {t : Turner} (K : TurnOk t) {x : List Move} (hx : x ∈ t.moves) : x.length ≤ 5 := by
  have := (K.row x hx).1; have := K.l3; omega

theorem TurnOk.mv {t : Turner} (K : TurnOk t) {x : List Move} (hx : x ∈ t.moves) {k : Nat} (hk : k < x.length) : mvOk (x[k]?.getD default) :=
  mvOk_of ((K.row x hx).2 k hk) (by have := K.n12; omega)

theorem mem_getD {α : Type} [Inhabited α] {l : List α} {k : Nat} (h : k < l.length) : l[k]?.getD default ∈ l := by
  rw [List.getElem?_eq_getElem h]; exact List.getElem_mem h

theorem getD_of_mem {α : Type} [Inhabited α] {l : List α} {x : α} (h : x ∈ l) : ∃ k, k < l.length ∧ l[k]?.getD default = x := by
  obtain ⟨k, hk, he⟩ := List.getElem_of_mem h
  exact ⟨k, hk, by rw [List.getElem?_eq_getElem hk]; exact he⟩

structure WritOk (r : Writer) : Prop where
  t : TurnOk r.turner
  v : validTurn r.turner = true
  n : r.out.length = r.turner.moves.length
  row : ∀ s, s < r.out.length → (r.out[s]?.getD default).length = (r.turner.moves[s]?.getD default).length ∧ ∀ x, x ∈ r.out[s]?.getD default → outOk x = true

theorem writOk_of {r : Writer} (h : writerOk r = true) : WritOk r := by
  unfold writerOk at h
  rw [Bool.and_eq_true, Bool.and_eq_true, decide_eq_true_eq] at h
  refine ⟨turnOk_of h.1, h.1, h.2.1, fun s hs => ?_⟩
  have h4 := List.all_eq_true.1 h.2.2 s (List.mem_range.2 (by omega))
  unfold orowOk at h4
  rw [Bool.and_eq_true, decide_eq_true_eq] at h4
  exact ⟨h4.1, fun x hx => List.all_eq_true.1 h4.2 x hx⟩

theorem out_size {x : ByteArray} (h : outOk x = true) : x.size ≤ 3 := by
  unfold outOk at h
  rw [Bool.and_eq_true, decide_eq_true_eq] at h
  exact h.1

theorem WritOk.len {r : Writer} (K : WritOk r) {x : List ByteArray} (hx : x ∈ r.out) : x.length ≤ 5 := by
  obtain ⟨s, hs, rfl⟩ := getD_of_mem hx
  rw [(K.row s hs).1]
  exact K.t.len (mem_getD (by rw [← K.n]; exact hs))

theorem WritOk.sz {r : Writer} (K : WritOk r) {x : List ByteArray} (hx : x ∈ r.out) {y : ByteArray} (hy : y ∈ x) : y.size ≤ 3 := by
  obtain ⟨s, hs, rfl⟩ := getD_of_mem hx
  exact out_size ((K.row s hs).2 y hy)

end Go.Proofs.YtodoghidckelcaaGreatDoor
