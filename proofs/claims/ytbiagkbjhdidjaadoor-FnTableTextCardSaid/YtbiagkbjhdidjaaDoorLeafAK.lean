/-
  Plain lemmas for the laws' own helpers. No program is named here.
-/
import Derived.Test.YtbiagkbjhdidjaaDoorOpenK
import Derived.Test.YtbiagkbjhdidjaaDoorShapeK
import Derived.Test.YtbiagkbjhdidjaaDoorStructsK
import Derived.Test.YtbiagkbjhdidjaaDoorOverK
import Derived.WalkKit
import Derived.WalkSpells
import Derived.WalkLawsBesides
import Derived.Deep.QuietTactic
import Derived.BigQuiet
import Derived.Lib.Hide
import Derived.WalkSmall
namespace Go.Proofs.YtbiagkbjhdidjaaDoor
open Go.RowKit

theorem take_succ_map {α : Type} (d : α) (f : α → Value) (l : List α) (k n : Nat) (z : Value) (hn : l.length = n) (hk : k < n) :
    (((l.take k).map f) ++ List.replicate (n - k) z).set k (f (l[k]?.getD d)) = ((l.take (k + 1)).map f) ++ List.replicate (n - (k + 1)) z := by
  subst hn
  rw [List.take_succ_eq_append_getElem hk, List.map_append, List.append_assoc]
  have hlen : ((l.take k).map f).length = k := by simp; omega
  rw [List.set_append_right _ _ (by omega), hlen, Nat.sub_self, show l.length - k = (l.length - (k + 1)) + 1 from by omega, List.replicate_succ]
  simp [List.getElem?_eq_getElem hk]

theorem beq_len {a b : Nat} (h : a = b) : ((a : Int) != (b : Int)) = false := by simp [h]
theorem bne_len {a b : Nat} (h : ¬ a = b) : ((a : Int) != (b : Int)) = true := by simp; omega

theorem ext_getD {α : Type} (d : α) {la lb : List α} (hl : la.length = lb.length) (h : ∀ i, i < la.length → la[i]?.getD d = lb[i]?.getD d) : la = lb := by
  apply List.ext_getElem hl
  intro i h1 h2
  have := h i h1
  simpa [List.getElem?_eq_getElem h1, List.getElem?_eq_getElem h2] using this

/-- What is left of a number behind t; -1 if that is too little. -/
def lim (t : Nat) (left : Int) : Int := if left < t then -1 else left - t

theorem lim_of_lt {t : Nat} {left : Int} (h : left < t) : lim t left = -1 := if_pos h
theorem lim_of_ge {t : Nat} {left : Int} (h : ¬ left < t) : lim t left = left - t := if_neg h

/-- The elements' own sizes. -/
def sumLen {α : Type} (l : List (List α)) : Nat := (l.map List.length).sum

theorem sumLen_take {α : Type} (l : List (List α)) (k : Nat) (x : List α) (h : l[k]? = some x) : sumLen (l.take (k + 1)) = sumLen (l.take k) + x.length := by
  obtain ⟨hk, rfl⟩ := List.getElem?_eq_some_iff.1 h
  rw [List.take_succ_eq_append_getElem hk]
  simp only [sumLen, List.map_append, List.sum_append, List.map_cons, List.map_nil, List.sum_cons, List.sum_nil, Nat.add_zero]

theorem sumLen_le {α : Type} (l : List (List α)) (k : Nat) : sumLen (l.take k) ≤ sumLen l := by
  conv => rhs; rw [← List.take_append_drop k l]
  simp only [sumLen, List.map_append, List.sum_append]
  omega

theorem sumLen_mem {α : Type} (l : List (List α)) (x : List α) (h : x ∈ l) : x.length ≤ sumLen l := by
  induction l with
  | nil => cases h
  | cons a l ih =>
    simp only [sumLen, List.map_cons, List.sum_cons] at *
    rcases List.mem_cons.1 h with rfl | h
    · omega
    · have := ih h; omega

/-- A slice of elements of several cells that lead nowhere. -/
theorem ow_flats {α : Type} {E : Enc α} {ty : TypeId} {w : World} {v : Value} {l : List α} {base : Nat} (c : α → List Value) (hf : ∀ x, x ∈ l → E.ow w (c x) x []) (h : w.ownsRow base ty E.size v l.length (l.flatMap c)) :
    (sliceE E ty).ow w [v] l v.ownBlock.toList := by
  refine ⟨v, l.map c, l.map fun _ => [], rfl, ?_, ?_, ?_⟩
  · clear h
    induction l with
    | nil => exact .nil
    | cons a l ih => exact .cons (hf a (by simp)) (ih fun x hx => hf x (by simp [hx]))
  · rw [← List.flatMap_def]; exact ownsRow_zero h
  · have : (l.map fun _ => ([] : List Nat)).flatten = [] := by simp
    rw [this, List.append_nil]

theorem makes_flats {α : Type} {E : Enc α} {ty : TypeId} {w wr : World} {v : Value} {l : List α} {g : Nat} (c : α → List Value) (hf : ∀ x, x ∈ l → E.ow wr (c x) x []) (h : wr.ownsRow g ty E.size v l.length (l.flatMap c))
    (hB : Below g w wr) (hg : g = w.heap.size) : Makes (sliceE E ty) id l w (.returned v) wr := by
  subst hg
  refine ⟨v, v.ownBlock.toList, rfl, ow_flats c hf h, nodup_option _, ?_, hB⟩
  intro b hb
  exact (h.lt b (by simpa using hb)).1

theorem flatMap_len {α : Type} (c : α → List Value) (s : Nat) (hc : ∀ x, (c x).length = s) (l : List α) : (l.flatMap c).length = l.length * s := by
  induction l with
  | nil => simp
  | cons a l ih => rw [List.flatMap_cons, List.length_append, ih, hc, List.length_cons, Nat.succ_mul]; omega

theorem flatMap_take {α : Type} (d : α) (c : α → List Value) (l : List α) (k : Nat) (hk : k < l.length) : (l.take (k + 1)).flatMap c = (l.take k).flatMap c ++ c (l[k]?.getD d) := by
  rw [List.take_succ_eq_append_getElem hk, List.flatMap_append]
  simp [List.getElem?_eq_getElem hk]

theorem flatMap_get {α : Type} (d : α) (c : α → List Value) (s : Nat) (hc : ∀ x, (c x).length = s) (l : List α) (k i : Nat) (hk : k < l.length) (hi : i < s) : (l.flatMap c)[k * s + i]? = (c (l[k]?.getD d))[i]? := by
  induction l generalizing k with
  | nil => simp at hk
  | cons a l ih =>
    rw [List.flatMap_cons]
    cases k with
    | zero => simp only [Nat.zero_mul, Nat.zero_add]; rw [List.getElem?_append_left (by rw [hc]; exact hi)]; simp
    | succ k =>
      rw [List.getElem?_append_right (by rw [hc, Nat.succ_mul]; omega), hc, show (k + 1) * s + i - s = k * s + i from by rw [Nat.succ_mul]; omega, ih k (by simpa using hk)]
      simp

theorem flatMap_set {α : Type} (d : α) (c : α → List Value) (s : Nat) (hc : ∀ x, (c x).length = s) (l : List α) (k i : Nat) (u : Value) (x : α) (hk : k < l.length) (hi : i < s) (hx : (c (l[k]?.getD d)).set i u = c x) : (l.flatMap c).set (k * s + i) u = (l.set k x).flatMap c := by
  induction l generalizing k with
  | nil => simp at hk
  | cons a l ih =>
    rw [List.flatMap_cons]
    cases k with
    | zero =>
      simp only [Nat.zero_mul, Nat.zero_add, List.set_cons_zero, List.flatMap_cons]
      rw [List.set_append_left _ _ (by rw [hc]; exact hi)]
      simp at hx
      rw [hx]
    | succ k =>
      rw [List.set_append_right _ _ (by rw [hc, Nat.succ_mul]; omega), hc, show (k + 1) * s + i - s = k * s + i from by rw [Nat.succ_mul]; omega, List.set_cons_succ, List.flatMap_cons]
      rw [ih k (by simpa using hk) (by simpa using hx)]

theorem fill2 (pre : List Value) (m : Nat) (z u0 u1 : Value) : ((pre ++ List.replicate (m + 2) z).set pre.length u0).set (pre.length + 1) u1 = pre ++ [u0, u1] ++ List.replicate m z := by
  rw [List.set_append_right _ _ (Nat.le_refl _), Nat.sub_self, List.replicate_succ, List.replicate_succ, List.set_cons_zero, List.set_append_right _ _ (by omega), show pre.length + 1 - pre.length = 1 from by omega]
  simp

theorem fill3 (pre : List Value) (m : Nat) (z u0 u1 u2 : Value) : (((pre ++ List.replicate (m + 3) z).set pre.length u0).set (pre.length + 1) u1).set (pre.length + 1 + 1) u2 = pre ++ [u0, u1, u2] ++ List.replicate m z := by
  rw [List.set_append_right _ _ (Nat.le_refl _), Nat.sub_self, List.replicate_succ, List.replicate_succ, List.replicate_succ, List.set_cons_zero, List.set_append_right _ _ (by omega), show pre.length + 1 - pre.length = 1 from by omega,
    List.set_cons_succ, List.set_cons_zero, List.set_append_right _ _ (by omega), show pre.length + 1 + 1 - pre.length = 2 from by omega]
  simp

theorem tail_get (pre : List Value) (m i : Nat) (z : Value) (hi : i < m) : (pre ++ List.replicate m z)[pre.length + i]? = some z := by
  rw [List.getElem?_append_right (by omega), show pre.length + i - pre.length = i from by omega, List.getElem?_replicate, if_pos hi]

/-- make([]T, n), T of several cells that are all alike at zero. -/
theorem make_runs {P : Program} {t e : TypeId} {i : TypeInfo} {z : Value} {s : Nat} (ht : P.underlying t = some (.slice e)) (hi : P.info? e = some i) (hz : i.zero = some z) (hs : i.size = s) (n : Nat) (hb : i.bytes * n ≤ 281474976710656) (hn : n ≤ 9223372036854775807) (w : World) :
    (Instr.makeSlice t (.int .i64 (n : Int)) (.int .i64 (n : Int))).run P w = .ok (.slice (some ⟨w.heap.size, 0, none⟩) n n) (w.alloc (.cells (madeCells z.cells (n * s)) e)) := by
  have hb' : (i.bytes : Int) * (n : Int) ≤ 281474976710656 := by
    have h : ((i.bytes * n : Nat) : Int) ≤ 281474976710656 := by omega
    rwa [Int.natCast_mul] at h
  have := run_make w t e i z ht hi hz .i64 .i64 n n (by omega) (by omega) hb' (by omega)
  rw [this]
  simp [hs]

theorem made_alike (zs : Array Value) (z : Value) (hz : ∀ i, i < zs.size → zs[i]? = some z) (hpos : 0 < zs.size) (n : Nat) : (madeCells zs n).toList = List.replicate n z := by
  apply List.ext_getElem?
  intro j
  by_cases hj : j < n
  · have hm : j % zs.size < zs.size := Nat.mod_lt _ hpos
    have := hz _ hm
    rw [Array.getElem?_eq_getElem hm] at this
    simp only [Option.some.injEq] at this
    simp [madeCells, hj, hm, this]
  · simp [madeCells, hj]

theorem made_owns2 {w : World} {ty : TypeId} (zs : Array Value) (z : Value) (s : Nat) (hs : zs.size = s) (hz : ∀ i, i < zs.size → zs[i]? = some z) (hpos : 0 < zs.size) (n : Nat) (hn : n ≤ maxLen) :
    (w.alloc (.cells (madeCells zs (n * s)) ty)).ownsRow w.heap.size ty s (.slice (some ⟨w.heap.size, 0, none⟩) n n) n (List.replicate (n * s) z) := by
  have := World.ownsRow_lit (e := ty) (size := s) w (madeCells zs (n * s)) n (Nat.le_refl _) hn (by simp [size_madeCells])
  rwa [made_alike zs z hz hpos] at this

end Go.Proofs.YtbiagkbjhdidjaaDoor
