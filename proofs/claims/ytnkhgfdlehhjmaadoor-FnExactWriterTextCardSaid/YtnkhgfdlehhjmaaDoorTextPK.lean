/-
  The texts of turners and writers, in plain words (written by a program of this claim's own, gen_text.py).
-/
import Derived.Test.YtnkhgfdlehhjmaaDoorWritOkK
import Derived.Test.YtnkhgfdlehhjmaaDoorNumsK
namespace Go.Proofs.YtnkhgfdlehhjmaaDoor
open Go.RowKit

def moveL (m : Move) : List UInt8 := if m.to = -1 then [121, 101, 115] else if m.to = -2 then [110, 111] else Lib.decDigits m.to.toNat ++ (if m.dir = -1 then [60] else if m.dir = 0 then [61] else [62])
def mvW (m : Move) : List UInt8 := 32 :: moveL m
def tlineL (row : List Move) : List UInt8 := [115, 116, 97, 116, 101] ++ row.flatMap mvW ++ [10]
def headL (t : Turner) : List UInt8 := [116, 117, 114, 110, 101, 114] ++ (numsB [t.letters.toNat, t.moves.length, t.start.toNat]).data.toList ++ [10]
def turnL (t : Turner) : List UInt8 := headL t ++ t.moves.flatMap tlineL
def outL (x : ByteArray) : List UInt8 := 32 :: (if x = ⟨#[]⟩ then [45] else x.data.toList)
def olineL (row : List ByteArray) : List UInt8 := [111, 117, 116] ++ row.flatMap outL ++ [10]
def writL (r : Writer) : List UInt8 := turnL r.turner ++ r.out.flatMap olineL
def turnText (t : Turner) : ByteArray := if validTurn t then ⟨(turnL t).toArray⟩ else ⟨#[]⟩
def writText (r : Writer) : ByteArray := if writerOk r then ⟨(writL r).toArray⟩ else ⟨#[]⟩

/-- What a right move holds. -/
def mvOk (m : Move) : Prop := m.to = -1 ∨ m.to = -2 ∨ ((0 ≤ m.to ∧ m.to ≤ 99) ∧ (-1 ≤ m.dir ∧ m.dir ≤ 1))

theorem mvOk_of {m : Move} {n l k : Int} (h : moveOk m n l k = true) (hn : n ≤ 99) : mvOk m := by
  unfold moveOk at h
  rw [Bool.or_eq_true] at h
  rcases h with h | h
  · unfold isStopB at h
    rw [Bool.and_eq_true, Bool.or_eq_true, beq_iff_eq, beq_iff_eq] at h
    rcases h.1 with h | h
    · exact .inl h
    · exact .inr (.inl h)
  · rw [Bool.and_eq_true, Bool.and_eq_true, Bool.and_eq_true] at h
    have h1 := within_true.1 h.1.1.1
    have h2 := within_true.1 h.1.1.2
    exact .inr (.inr ⟨⟨by omega, by omega⟩, h2⟩)

structure TurnOk (t : Turner) : Prop where
  l1 : 1 ≤ t.letters
  l3 : t.letters ≤ 3
  n1 : 1 ≤ t.moves.length
  n12 : t.moves.length ≤ 12
  s0 : 0 ≤ t.start
  s1 : t.start < t.moves.length
  row : ∀ x, x ∈ t.moves → (x.length : Int) = t.letters + 2 ∧ ∀ k, k < x.length → moveOk (x[k]?.getD default) t.moves.length t.letters k = true

theorem turnOk_of {t : Turner} (h : validTurn t = true) : TurnOk t := by
  unfold validTurn at h
  rw [Bool.and_eq_true, Bool.and_eq_true, Bool.and_eq_true] at h
  have h1 := within_true.1 h.1
  have h2 := within_true.1 h.2.1
  have h3 := within_true.1 h.2.2.1
  refine ⟨h1.1, h1.2, by omega, by omega, h3.1, by omega, fun x hx => ?_⟩
  have h4 := List.all_eq_true.1 h.2.2.2 x hx
  unfold mrowOk at h4
  rw [Bool.and_eq_true, decide_eq_true_eq] at h4
  exact ⟨h4.1, fun k hk => List.all_eq_true.1 h4.2 k (List.mem_range.2 hk)⟩

theorem TurnOk.len {t : Turner} (K : TurnOk t) {x : List Move} (hx : x ∈ t.moves) : x.length ≤ 5 := by
  have := (K.row x hx).1; have := K.l3; omega

theorem TurnOk.mv {t : Turner} (K : TurnOk t) {x : List Move} (hx : x ∈ t.moves) {k : Nat} (hk : k < x.length) : mvOk (x[k]?.getD default) :=
  mvOk_of ((K.row x hx).2 k hk) (by have := K.n12; omega)

theorem mem_getD {α : Type} [Inhabited α] {l : List α} {k : Nat} (h : k < l.length) : l[k]?.getD default ∈ l := by
  rw [List.getElem?_eq_getElem h]; exact List.getElem_mem h

theorem getD_of_mem {α : Type} [Inhabited α] {l : List α} {x : α} (h : x ∈ l) : ∃ k, k < l.length ∧ l[k]?.getD default = x := by
  obtain ⟨k, hk, he⟩ := List.getElem_of_mem h
  exact ⟨k, hk, by rw [List.getElem?_eq_getElem hk]; exact he⟩

theorem flatMap_le {α β : Type} (f : α → List β) (c : Nat) (l : List α) (h : ∀ x, x ∈ l → (f x).length ≤ c) : (l.flatMap f).length ≤ l.length * c := by
  induction l with
  | nil => simp
  | cons a l ih =>
    rw [List.flatMap_cons, List.length_append, List.length_cons, Nat.succ_mul]
    have := h a (by simp); have := ih (fun x hx => h x (by simp [hx])); omega

theorem flatMapT_le {α β : Type} (f : α → List β) (c n : Nat) (l : List α) (h : ∀ x, x ∈ l → (f x).length ≤ c) (hn : l.length ≤ n) (k : Nat) : ((l.take k).flatMap f).length ≤ n * c := by
  have h1 := flatMap_le f c (l.take k) (fun x hx => h x (List.mem_of_mem_take hx))
  have h2 : (l.take k).length ≤ n := by rw [List.length_take]; omega
  exact Nat.le_trans h1 (Nat.mul_le_mul_right c h2)

theorem flatMap_takeS {α β : Type} [Inhabited α] (f : α → List β) (l : List α) (k : Nat) (h : k < l.length) : (l.take (k + 1)).flatMap f = (l.take k).flatMap f ++ f (l[k]?.getD default) := by
  rw [List.take_succ_eq_append_getElem h, List.flatMap_append, List.getElem?_eq_getElem h]
  simp

theorem moveL_le {m : Move} (h : mvOk m) : (moveL m).length ≤ 3 := by
  unfold moveL
  by_cases h1 : m.to = -1
  · rw [if_pos h1]; decide
  by_cases h2 : m.to = -2
  · rw [if_neg h1, if_pos h2]; decide
  rw [if_neg h1, if_neg h2]
  rcases h with h | h | ⟨h, -⟩
  · exact absurd h h1
  · exact absurd h h2
  have hd := decB_len 1 m.to.toNat (by omega)
  have he : (decB m.to.toNat).size = (Lib.decDigits m.to.toNat).length := by unfold decB; rw [ByteArray.size]; simp
  rw [List.length_append, ← he]
  split
  · simp; omega
  · split <;> (simp; omega)

theorem mvW_le {m : Move} (h : mvOk m) : (mvW m).length ≤ 4 := by
  have := moveL_le h; unfold mvW; rw [List.length_cons]; omega

theorem TurnOk.mrow_le {t : Turner} (K : TurnOk t) {x : List Move} (hx : x ∈ t.moves) (k : Nat) : ((x.take k).flatMap mvW).length ≤ 20 :=
  flatMapT_le mvW 4 5 x (fun m hm => by obtain ⟨j, hj, rfl⟩ := getD_of_mem hm; exact mvW_le (K.mv hx hj)) (K.len hx) k

theorem TurnOk.tline_le {t : Turner} (K : TurnOk t) {x : List Move} (hx : x ∈ t.moves) : (tlineL x).length ≤ 26 := by
  have h := K.mrow_le hx x.length
  rw [List.take_length] at h
  unfold tlineL
  simp only [List.length_append, List.length_cons, List.length_nil]
  omega

theorem TurnOk.lines_le {t : Turner} (K : TurnOk t) (k : Nat) : ((t.moves.take k).flatMap tlineL).length ≤ 312 :=
  flatMapT_le tlineL 26 12 t.moves (fun x hx => K.tline_le hx) K.n12 k

theorem TurnOk.nums_le {t : Turner} (K : TurnOk t) : (numsB [t.letters.toNat, t.moves.length, t.start.toNat]).size ≤ 60 := by
  have h := numsB_size [t.letters.toNat, t.moves.length, t.start.toNat] (fun n hn => by
    have := K.l3; have := K.n12; have := K.s1
    simp only [List.mem_cons, List.not_mem_nil, or_false] at hn
    rcases hn with h | h | h <;> (rw [h]; omega)) 3 (Nat.le_refl _)
  exact h

theorem TurnOk.head_le {t : Turner} (K : TurnOk t) : (headL t).length ≤ 67 := by
  have h := K.nums_le
  have he : (numsB [t.letters.toNat, t.moves.length, t.start.toNat]).size = (numsB [t.letters.toNat, t.moves.length, t.start.toNat]).data.toList.length := Array.length_toList.symm
  unfold headL
  simp only [List.length_append, List.length_cons, List.length_nil]
  omega

theorem TurnOk.turnL_le {t : Turner} (K : TurnOk t) : (turnL t).length ≤ 379 := by
  have h := K.lines_le t.moves.length
  rw [List.take_length] at h
  have := K.head_le
  unfold turnL
  rw [List.length_append]
  omega

structure WritOk (r : Writer) : Prop where
  t : TurnOk r.turner
  v : validTurn r.turner = true
  n : r.out.length = r.turner.moves.length
  row : ∀ s, s < r.out.length → (r.out[s]?.getD default).length = (r.turner.moves[s]?.getD default).length ∧ ∀ x, x ∈ r.out[s]?.getD default → outOk x = true

theorem writOk_of {r : Writer} (h : writerOk r = true) : WritOk r := by
  unfold writerOk at h
  rw [Bool.and_eq_true, Bool.and_eq_true, decide_eq_true_eq] at h
  refine ⟨turnOk_of h.1, h.1, h.2.1, fun s hs => ?_⟩
  have h4 := List.all_eq_true.1 h.2.2 s (List.mem_range.2 (by omega))
  unfold orowOk at h4
  rw [Bool.and_eq_true, decide_eq_true_eq] at h4
  exact ⟨h4.1, fun x hx => List.all_eq_true.1 h4.2 x hx⟩

theorem out_size {x : ByteArray} (h : outOk x = true) : x.size ≤ 3 := by
  unfold outOk at h
  rw [Bool.and_eq_true, decide_eq_true_eq] at h
  exact h.1

theorem WritOk.len {r : Writer} (K : WritOk r) {x : List ByteArray} (hx : x ∈ r.out) : x.length ≤ 5 := by
  obtain ⟨s, hs, rfl⟩ := getD_of_mem hx
  rw [(K.row s hs).1]
  exact K.t.len (mem_getD (by rw [← K.n]; exact hs))

theorem WritOk.sz {r : Writer} (K : WritOk r) {x : List ByteArray} (hx : x ∈ r.out) {y : ByteArray} (hy : y ∈ x) : y.size ≤ 3 := by
  obtain ⟨s, hs, rfl⟩ := getD_of_mem hx
  exact out_size ((K.row s hs).2 y hy)

theorem outL_le {x : ByteArray} (h : x.size ≤ 3) : (outL x).length ≤ 4 := by
  unfold outL
  rw [List.length_cons]
  have he : x.size = x.data.toList.length := Array.length_toList.symm
  split
  · simp
  · omega

theorem WritOk.orow_le {r : Writer} (K : WritOk r) {x : List ByteArray} (hx : x ∈ r.out) (k : Nat) : ((x.take k).flatMap outL).length ≤ 20 :=
  flatMapT_le outL 4 5 x (fun y hy => outL_le (K.sz hx hy)) (K.len hx) k

theorem WritOk.oline_le {r : Writer} (K : WritOk r) {x : List ByteArray} (hx : x ∈ r.out) : (olineL x).length ≤ 24 := by
  have h := K.orow_le hx x.length
  rw [List.take_length] at h
  unfold olineL
  simp only [List.length_append, List.length_cons, List.length_nil]
  omega

theorem WritOk.lines_le {r : Writer} (K : WritOk r) (k : Nat) : ((r.out.take k).flatMap olineL).length ≤ 288 :=
  flatMapT_le olineL 24 12 r.out (fun x hx => K.oline_le hx) (by rw [K.n]; exact K.t.n12) k

theorem WritOk.writL_le {r : Writer} (K : WritOk r) : (writL r).length ≤ 667 := by
  have h := K.lines_le r.out.length
  rw [List.take_length] at h
  have := K.t.turnL_le
  unfold writL
  rw [List.length_append]
  omega

theorem turnText_size (t : Turner) : (turnText t).size ≤ 379 := by
  unfold turnText
  cases h : validTurn t
  · rw [if_neg (by decide)]; exact Nat.zero_le _
  · rw [if_pos rfl]
    have := (turnOk_of h).turnL_le
    rw [ByteArray.size]; simpa using this

theorem arr_list (l : List UInt8) : (⟨l.toArray⟩ : ByteArray).data.toList = l := rfl
theorem arr_size (l : List UInt8) : (⟨l.toArray⟩ : ByteArray).size = l.length := by rw [ByteArray.size]; simp
theorem arr_of {x : ByteArray} {l : List UInt8} (h : x.data.toList = l) : x = ⟨l.toArray⟩ := by subst h; cases x; simp

end Go.Proofs.YtnkhgfdlehhjmaaDoor
