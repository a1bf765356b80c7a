/-
  What PreimageTurner answers, in plain words (written by a program of this claim's own, gen_pre.py).
-/
import Derived.Test.YtcifdkliiljmkaaGreatDoorOksK
import Derived.Test.YtcifdkliiljmkaaGreatDoorValidReadK
import Derived.Test.YtcifdkliiljmkaaGreatDoorMTurnerK
namespace Go.Proofs.YtcifdkliiljmkaaGreatDoor
open Go.RowKit

structure ReadOk (r : Reader) : Prop where
  l1 : 1 ≤ r.letters
  l3 : r.letters ≤ 3
  n1 : 1 ≤ r.accept.length
  n300 : r.accept.length ≤ 300
  s0 : 0 ≤ r.start
  s1 : r.start < r.accept.length
  nn : r.next.length = r.accept.length
  row : ∀ x, x ∈ r.next → (x.length : Int) = r.letters ∧ ∀ y, y ∈ x → 0 ≤ y ∧ y < r.accept.length

theorem readOk_of {r : Reader} (h : validRead r = true) : ReadOk r := by
  unfold validRead at h
  rw [Bool.and_eq_true, Bool.and_eq_true, Bool.and_eq_true, Bool.and_eq_true, decide_eq_true_eq] at h
  have h1 := within_true.1 h.1
  have h2 := within_true.1 h.2.1
  have h3 := within_true.1 h.2.2.1
  refine ⟨h1.1, h1.2, by omega, by omega, h3.1, by omega, by omega, fun x hx => ?_⟩
  have h4 := List.all_eq_true.1 h.2.2.2.2 x hx
  unfold areStates at h4
  rw [Bool.and_eq_true, decide_eq_true_eq] at h4
  refine ⟨h4.1, fun y hy => ?_⟩
  have h5 := within_true.1 (List.all_eq_true.1 h4.2 y hy)
  omega

def nextR (r : Reader) (s c : Nat) : Nat := ((r.next[s]?.getD default)[c]?.getD 0).toNat
def afterL (r : Reader) : Nat → List UInt8 → Nat
  | s, [] => s
  | s, b :: l => afterL r (nextR r s (b.toNat - 97)) l

theorem afterL_snoc (r : Reader) : ∀ (l : List UInt8) (s : Nat) (b : UInt8), afterL r s (l ++ [b]) = nextR r (afterL r s l) (b.toNat - 97)
  | [], _, _ => rfl
  | a :: l, s, b => by rw [List.cons_append, afterL, afterL_snoc r l, afterL]

theorem ReadOk.next {r : Reader} (K : ReadOk r) (h3 : r.letters = 3) {s c : Nat} (hs : s < r.accept.length) (hc : c < 3) : ((r.next[s]?.getD default)[c]?.getD 0) = (nextR r s c : Int) ∧ nextR r s c < r.accept.length := by
  have hm := mem_getD (l := r.next) (k := s) (by rw [K.nn]; exact hs)
  obtain ⟨h1, h2⟩ := K.row _ hm
  have hl : c < (r.next[s]?.getD default).length := by omega
  have h5 := h2 ((r.next[s]?.getD default)[c]) (List.getElem_mem hl)
  unfold nextR
  rw [List.getElem?_eq_getElem hl, Option.getD_some]
  omega

theorem ReadOk.after {r : Reader} (K : ReadOk r) (h3 : r.letters = 3) : ∀ (l : List UInt8) (s : Nat), s < r.accept.length → (∀ b, b ∈ l → 97 ≤ b.toNat ∧ b.toNat ≤ 99) → afterL r s l < r.accept.length
  | [], _, hs, _ => hs
  | b :: l, s, hs, hb => K.after h3 l _ (K.next h3 hs (by have := hb b (by simp); omega)).2 (fun x hx => hb x (by simp [hx]))

theorem out_bytes {x : ByteArray} (h : outOk x = true) : ∀ b, b ∈ x.data.toList → 97 ≤ b.toNat ∧ b.toNat ≤ 99 := by
  unfold outOk at h
  rw [Bool.and_eq_true] at h
  intro b hb
  have := List.all_eq_true.1 h.2 b hb
  rw [abc_in] at this
  have := within_true.1 this
  omega

/-- A move of the pair of states. -/
def preMove (r : Reader) (n : Nat) (m : Move) (to : Nat) : Move :=
  if m.to < 0 then (if m.to = -1 ∧ r.accept[to]?.getD false = false then ⟨-2, m.dir⟩ else m) else ⟨m.to * n + to, m.dir⟩
def preRow (w : Writer) (r : Reader) (q s : Nat) : List Move :=
  (List.range (w.turner.moves[q]?.getD default).length).map fun k => preMove r r.accept.length ((w.turner.moves[q]?.getD default)[k]?.getD default) (afterL r s ((w.out[q]?.getD default)[k]?.getD ByteArray.empty).data.toList)
def preCol (w : Writer) (r : Reader) (q : Nat) : List (List Move) := (List.range r.accept.length).map (preRow w r q)
def preRows (w : Writer) (r : Reader) : List (List Move) := (List.range w.turner.moves.length).flatMap (preCol w r)
def preT (w : Writer) (r : Reader) : Turner := ⟨w.turner.letters, w.turner.start * r.accept.length + r.start, preRows w r⟩
def preimg (w : Writer) (r : Reader) : Turner × Int :=
  if writerOk w && validRead r then (if r.letters = 3 then (preT w r, 0) else (default, 2)) else (default, 1)
def turnOr (t : Turner) : Turner × Int := if validTurn t then (t, 0) else (default, 3)
def preTurner (w : Writer) (r : Reader) : Turner × Int :=
  if writerOk w && validRead r then (if r.letters = 3 then turnOr (preT w r) else (default, 2)) else (default, 1)

theorem preTurner_eq (w : Writer) (r : Reader) : preTurner w r = if (preimg w r).2 = 0 then turnOr (preimg w r).1 else (default, (preimg w r).2) := by
  unfold preTurner preimg
  split
  · split
    · rfl
    · rfl
  · rfl

theorem cnt_turnOk {t : Turner} (h : validTurn t = true) : turnM.cnt t ≤ 4611686018427387000 := by
  have K := turnOk_of h
  have h1 := sum_map_le movesM.cnt 10 t.moves (fun x hx => by have := K.len hx; show 2 * x.length ≤ 10; omega)
  have := K.n12
  show (t.moves.map movesM.cnt).sum ≤ _
  omega

theorem cnt_preTurner (w : Writer) (r : Reader) : turnM.cnt (preTurner w r).1 ≤ 4611686018427387000 := by
  unfold preTurner
  split
  · split
    · unfold turnOr
      split
      · rename_i h; exact cnt_turnOk h
      · decide
    · decide
  · decide

theorem preCol_succ (w : Writer) (r : Reader) (q s : Nat) : (List.range (s + 1)).map (preRow w r q) = (List.range s).map (preRow w r q) ++ [preRow w r q s] := by
  rw [List.range_succ, List.map_append]; rfl
theorem preRows_succ (w : Writer) (r : Reader) (q : Nat) : (List.range (q + 1)).flatMap (preCol w r) = (List.range q).flatMap (preCol w r) ++ preCol w r q := by
  rw [List.range_succ, List.flatMap_append]; simp

theorem len_flatMap_const {α β : Type} (f : α → List β) (c : Nat) (l : List α) (h : ∀ x, x ∈ l → (f x).length = c) : (l.flatMap f).length = l.length * c := by
  induction l with
  | nil => simp
  | cons a l ih =>
    rw [List.flatMap_cons, List.length_append, List.length_cons, Nat.succ_mul, h a (by simp), ih (fun x hx => h x (by simp [hx]))]
    omega

theorem preRows_len (w : Writer) (r : Reader) (q : Nat) : ((List.range q).flatMap (preCol w r)).length = q * r.accept.length := by
  rw [len_flatMap_const (preCol w r) r.accept.length _ (fun x _ => by simp [preCol]), List.length_range]

end Go.Proofs.YtcifdkliiljmkaaGreatDoor
