/-
  The texts of turners and writers, in plain words (written by a program of this claim's own, gen_text.py).
-/
import Derived.Test.YtodoghidckelcaaGreatDoorOksK
import Derived.Test.YtodoghidckelcaaGreatDoorNumsK
namespace Go.Proofs.YtodoghidckelcaaGreatDoor
open Go.RowKit

def moveL (m : Move) : List UInt8 := if m.to = -1 then [121, 101, 115] else if m.to = -2 then [110, 111] else Lib.decDigits m.to.toNat ++ (if m.dir = -1 then [60] else if m.dir = 0 then [61] else [62])
def mvW (m : Move) : List UInt8 := 32 :: moveL m
def tlineL (row : List Move) : List UInt8 := [115, 116, 97, 116, 101] ++ row.flatMap mvW ++ [10]
def headL (t : Turner) : List UInt8 := [116, 117, 114, 110, 101, 114] ++ (numsB [t.letters.toNat, t.moves.length, t.start.toNat]).data.toList ++ [10]
def turnL (t : Turner) : List UInt8 := headL t ++ t.moves.flatMap tlineL
def outL (x : ByteArray) : List UInt8 := 32 :: (if x = ⟨#[]⟩ then [45] else x.data.toList)
def olineL (row : List ByteArray) : List UInt8 := [111, 117, 116] ++ row.flatMap outL ++ [10]
def writL (r : Writer) : List UInt8 := turnL r.turner ++ r.out.flatMap olineL
def turnText (t : Turner) : ByteArray := if validTurn t then ⟨(turnL t).toArray⟩ else ⟨#[]⟩
def writText (r : Writer) : ByteArray := if writerOk r then ⟨(writL r).toArray⟩ else ⟨#[]⟩

theorem flatMap_le {α β : Type} (f : α → List β) (c : Nat) (l : List α) (h : ∀ x, x ∈ l → (f x).length ≤ c) : (l.flatMap f).length ≤ l.length * c := by
  induction l with
  | nil => simp
  | cons a l ih =>
    rw [List.flatMap_cons, List.length_append, List.length_cons, Nat.succ_mul]
    have := h a (by simp); have := ih (fun x hx => h x (by simp [hx])); omega

theorem flatMapT_le {α β : Type} (f : α → List β) (c n : Nat) (l : List α) (h : ∀ x, x ∈ l → (f x).length ≤ c) (hn : l.length ≤ n) (k : Nat) : ((l.take k).flatMap f).length ≤ n * c := by
  have h1 := flatMap_le f c (l.take k) (fun x hx => h x (List.mem_of_mem_take hx))
  have h2 : (l.take k).length ≤ n := by rw [List.length_take]; omega
  exact Nat.le_trans h1 (Nat.mul_le_mul_right c h2)

theorem flatMap_takeS {α β : Type} [Inhabited α] (f : α → List β) (l : List α) (k : Nat) (h : k < l.length) : (l.take (k + 1)).flatMap f = (l.take k).flatMap f ++ f (l[k]?.getD default) := by
  rw [List.take_succ_eq_append_getElem h, List.flatMap_append, List.getElem?_eq_getElem h]
  simp

theorem moveL_le {m : Move} (h : mvOk m) : (moveL m).length ≤ 3 := by
  unfold moveL
  by_cases h1 : m.to = -1
  · rw [if_pos h1]; decide
  by_cases h2 : m.to = -2
  · rw [if_neg h1, if_pos h2]; decide
  rw [if_neg h1, if_neg h2]
  rcases h with h | h | ⟨h, -⟩
  · exact absurd h h1
  · exact absurd h h2
  have hd := decB_len 1 m.to.toNat (by omega)
  have he : (decB m.to.toNat).size = (Lib.decDigits m.to.toNat).length := by unfold decB; rw [ByteArray.size]; simp
  rw [List.length_append, ← he]
  split
  · simp; omega
  · split <;> (simp; omega)

theorem mvW_le {m : Move} (h : mvOk m) : (mvW m).length ≤ 4 := by
  have := moveL_le h; unfold mvW; rw [List.length_cons]; omega

theorem TurnOk.mrow_le {t : Turner} (K : TurnOk t) {x : List Move} (hx : x ∈ t.moves) (k : Nat) : ((x.take k).flatMap mvW).length ≤ 20 :=
  flatMapT_le mvW 4 5 x (fun m hm => by obtain ⟨j, hj, rfl⟩ := getD_of_mem hm; exact mvW_le (K.mv hx hj)) (K.len hx) k

theorem TurnOk.tline_le {t : Turner} (K : TurnOk t) {x : List Move} (hx : x ∈ t.moves) : (tlineL x).length ≤ 26 := by
  have h := K.mrow_le hx x.length
  rw [List.take_length] at h
  unfold tlineL
  simp only [List.length_append, List.length_cons, List.length_nil]
  omega

theorem TurnOk.lines_le {t : Turner} (K : TurnOk t) (k : Nat) : ((t.moves.take k).flatMap tlineL).length ≤ 312 :=
  flatMapT_le tlineL 26 12 t.moves (fun x hx => K.tline_le hx) K.n12 k

theorem TurnOk.nums_le {t : Turner} (K : TurnOk t) : (numsB [t.letters.toNat, t.moves.length, t.start.toNat]).size ≤ 60 := by
  have h := numsB_size [t.letters.toNat, t.moves.length, t.start.toNat] (fun n hn => by
    have := K.l3; have := K.n12; have := K.s1
    simp only [List.mem_cons, List.not_mem_nil, or_false] at hn
    rcases hn with h | h | h <;> (rw [h]; omega)) 3 (Nat.le_refl _)
  exact h

theorem TurnOk.head_le {t : Turner} (K : TurnOk t) : (headL t).length ≤ 67 := by
  have h := K.nums_le
  have he : (numsB [t.letters.toNat, t.moves.length, t.start.toNat]).size = (numsB [t.letters.toNat, t.moves.length, t.start.toNat]).data.toList.length := Array.length_toList.symm
  unfold headL
  simp only [List.length_append, List.length_cons, List.length_nil]
  omega

theorem TurnOk.turnL_le {t : Turner} (K : TurnOk t) : (turnL t).length ≤ 379 := by
  have h := K.lines_le t.moves.length
  rw [List.take_length] at h
  have := K.head_le
  unfold turnL
  rw [List.length_append]
  omega

theorem outL_le {x : ByteArray} (h : x.size ≤ 3) : (outL x).length ≤ 4 := by
  unfold outL
  rw [List.length_cons]
  have he : x.size = x.data.toList.length := Array.length_toList.symm
  split
  · simp
  · omega

theorem WritOk.orow_le {r : Writer} (K : WritOk r) {x : List ByteArray} (hx : x ∈ r.out) (k : Nat) : ((x.take k).flatMap outL).length ≤ 20 :=
  flatMapT_le outL 4 5 x (fun y hy => outL_le (K.sz hx hy)) (K.len hx) k

theorem WritOk.oline_le {r : Writer} (K : WritOk r) {x : List ByteArray} (hx : x ∈ r.out) : (olineL x).length ≤ 24 := by
  have h := K.orow_le hx x.length
  rw [List.take_length] at h
  unfold olineL
  simp only [List.length_append, List.length_cons, List.length_nil]
  omega

theorem WritOk.lines_le {r : Writer} (K : WritOk r) (k : Nat) : ((r.out.take k).flatMap olineL).length ≤ 288 :=
  flatMapT_le olineL 24 12 r.out (fun x hx => K.oline_le hx) (by rw [K.n]; exact K.t.n12) k

theorem WritOk.writL_le {r : Writer} (K : WritOk r) : (writL r).length ≤ 667 := by
  have h := K.lines_le r.out.length
  rw [List.take_length] at h
  have := K.t.turnL_le
  unfold writL
  rw [List.length_append]
  omega

theorem turnText_size (t : Turner) : (turnText t).size ≤ 379 := by
  unfold turnText
  cases h : validTurn t
  · rw [if_neg (by decide)]; exact Nat.zero_le _
  · rw [if_pos rfl]
    have := (turnOk_of h).turnL_le
    rw [ByteArray.size]; simpa using this

theorem arr_list (l : List UInt8) : (⟨l.toArray⟩ : ByteArray).data.toList = l := rfl
theorem arr_size (l : List UInt8) : (⟨l.toArray⟩ : ByteArray).size = l.length := by rw [ByteArray.size]; simp
theorem arr_of {x : ByteArray} {l : List UInt8} (h : x.data.toList = l) : x = ⟨l.toArray⟩ := by subst h; cases x; simp

end Go.Proofs.YtodoghidckelcaaGreatDoor
