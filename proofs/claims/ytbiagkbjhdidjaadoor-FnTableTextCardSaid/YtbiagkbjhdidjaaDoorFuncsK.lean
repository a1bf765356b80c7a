/-
  Contracts of the library's ContainsFunc and IndexFunc at the program's types, for whatever function value that answers a Bool of the element; and of the smallest functions of the program.
-/
import Derived.Test.YtbiagkbjhdidjaaDoorLInt64SK
import Derived.Test.YtbiagkbjhdidjaaDoorStructsK
namespace Go.Proofs.YtbiagkbjhdidjaaDoor
open Go.RowKit

/-- A number lies in a range. -/
def within (n lo hi : Int) : Bool := decide (lo ≤ n) && decide (n ≤ hi)

theorem within_true {n lo hi : Int} : within n lo hi = true ↔ lo ≤ n ∧ n ≤ hi := by simp [within]
theorem within_eq {n lo hi : Int} (h : lo ≤ n ∧ n ≤ hi) : within n lo hi = true := within_true.2 h
theorem within_ne {n lo hi : Int} (h : ¬ (lo ≤ n ∧ n ≤ hi)) : within n lo hi = false := by
  rw [Bool.eq_false_iff]; exact fun e => h (within_true.1 e)

theorem within_k (n lo hi : Int) (w : World) : Calls Tryd.prog 21 #[.int .i64 n, .int .i64 lo, .int .i64 hi] w (Keeps (.bool (within n lo hi)) w) := by
  by_cases h1 : lo ≤ n
  · have hr : within n lo hi = decide (n ≤ hi) := by simp [within, h1]
    have Hr := Lib.hid hr; clear hr
    go_enter Tryd.func21, Tryd.ntmps21
    go_wp2
    go_ret
    exact ⟨by rw [Hr.out]; rfl, rfl⟩
  · have hr : within n lo hi = false := within_ne (fun h => h1 h.1)
    have Hr := Lib.hid hr; clear hr
    go_enter Tryd.func21, Tryd.ntmps21
    go_wp2
    go_ret
    exact ⟨by rw [Hr.out]; rfl, rfl⟩

theorem within_any (n lo hi : Int) (w : World) : Calls Tryd.prog 21 #[.int .i64 n, .int .i64 lo, .int .i64 hi] w (Gives (.bool (within n lo hi)) w) :=
  (within_k n lo hi w).mono fun _ _ ⟨h1, h2⟩ => ⟨h1, h2 ▸ Below.refl _ _⟩

theorem within_kis (r : Bool) (n lo hi : Int) (w : World) (h : within n lo hi = r) : Calls Tryd.prog 21 #[.int .i64 n, .int .i64 lo, .int .i64 hi] w (Keeps (.bool r) w) := h ▸ within_k n lo hi w

theorem all_of_idx {α : Type} (d : α) (p : α → Bool) (l : List α) (h : ∀ i, i < l.length → p (l[i]?.getD d) = true) : l.all p = true := by
  rw [List.all_eq_true]
  intro x hx
  obtain ⟨i, hi, rfl⟩ := List.getElem_of_mem hx
  have := h i hi
  simpa [List.getElem?_eq_getElem hi] using this

theorem all_not_idx {α : Type} (d : α) (p : α → Bool) (l : List α) (i : Nat) (hi : i < l.length) (h : p (l[i]?.getD d) = false) : l.all p = false := by
  rw [Bool.eq_false_iff]
  intro ha
  rw [List.all_eq_true] at ha
  have := ha l[i] (List.getElem_mem hi)
  simp [List.getElem?_eq_getElem hi] at h
  rw [h] at this
  cases this

/-- Where a function answers yes for the first time, -1 where it never does. -/
def firstIdx {α : Type} (p : α → Bool) : List α → Int
  | [] => -1
  | a :: l => if p a then 0 else if firstIdx p l < 0 then -1 else firstIdx p l + 1

theorem firstIdx_none {α : Type} (p : α → Bool) (l : List α) (h : ∀ x, x ∈ l → p x = false) : firstIdx p l = -1 := by
  induction l with
  | nil => rfl
  | cons a l ih =>
    have h1 := ih (fun x hx => h x (by simp [hx]))
    simp [firstIdx, h a (by simp), h1]

theorem firstIdx_at {α : Type} (p : α → Bool) (l : List α) (k : Nat) (x : α) (hk : l[k]? = some x) (hx : p x = true) (h : ∀ i y, i < k → l[i]? = some y → p y = false) : firstIdx p l = k := by
  induction l generalizing k with
  | nil => simp at hk
  | cons a l ih =>
    cases k with
    | zero =>
      simp only [List.getElem?_cons_zero, Option.some.injEq] at hk
      subst hk
      simp [firstIdx, hx]
    | succ k =>
      have h0 := h 0 a (by omega) rfl
      have h1 := ih k (by simpa using hk) (fun i y hi hy => h (i + 1) y (by omega) (by simpa using hy))
      have h2 : ¬ ((k : Int) < 0) := by omega
      simp [firstIdx, h0, h1, h2]

theorem firstIdx_any {α : Type} (p : α → Bool) (l : List α) : decide (0 ≤ firstIdx p l) = l.any p := by
  induction l with
  | nil => rfl
  | cons a l ih =>
    rw [List.any_cons, ← ih]
    have e : firstIdx p (a :: l) = if p a = true then 0 else if firstIdx p l < 0 then -1 else firstIdx p l + 1 := rfl
    rw [e]
    by_cases h : p a = true
    · simp [h]
    · rw [if_neg h]
      have h' : p a = false := by simpa using h
      rw [h', Bool.false_or]
      by_cases h2 : firstIdx p l < 0
      · rw [if_pos h2, decide_eq_false (by omega), decide_eq_false (by omega)]
      · rw [if_neg h2, decide_eq_true (by omega), decide_eq_true (by omega)]

end Go.Proofs.YtbiagkbjhdidjaaDoor
