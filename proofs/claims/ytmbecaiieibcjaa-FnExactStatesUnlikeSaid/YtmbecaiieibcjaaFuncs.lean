/-
  Contracts of the library's ContainsFunc and IndexFunc at the program's types, for whatever function value that answers a Bool of the element; and of the smallest functions of the program.
-/
import Derived.Test.YtmbecaiieibcjaaLInt64S
import Derived.Test.YtmbecaiieibcjaaStructs
namespace Go.Proofs.Ytmbecaiieibcjaa
open Go.RowKit

/-- A number lies in a range. -/
def within (n lo hi : Int) : Bool := decide (lo ≤ n) && decide (n ≤ hi)

theorem within_true {n lo hi : Int} : within n lo hi = true ↔ lo ≤ n ∧ n ≤ hi := by simp [within]
theorem within_eq {n lo hi : Int} (h : lo ≤ n ∧ n ≤ hi) : within n lo hi = true := within_true.2 h
theorem within_ne {n lo hi : Int} (h : ¬ (lo ≤ n ∧ n ≤ hi)) : within n lo hi = false := by
  rw [Bool.eq_false_iff]; exact fun e => h (within_true.1 e)

theorem within_k (n lo hi : Int) (w : World) : Calls Try.prog 34 #[.int .i64 n, .int .i64 lo, .int .i64 hi] w (Keeps (.bool (within n lo hi)) w) := by
  by_cases h1 : lo ≤ n
  · have hr : within n lo hi = decide (n ≤ hi) := by simp [within, h1]
    have Hr := Lib.hid hr; clear hr
    go_enter Try.func34, Try.ntmps34
    go_wp2
    go_ret
    exact ⟨by rw [Hr.out]; rfl, rfl⟩
  · have hr : within n lo hi = false := within_ne (fun h => h1 h.1)
    have Hr := Lib.hid hr; clear hr
    go_enter Try.func34, Try.ntmps34
    go_wp2
    go_ret
    exact ⟨by rw [Hr.out]; rfl, rfl⟩

theorem l00In_k (n lo hi : Int) (w : World) : Calls Try.prog 28 #[.int .i64 n, .int .i64 lo, .int .i64 hi] w (Keeps (.bool (within n lo hi)) w) := by
  by_cases h1 : lo ≤ n
  · have hr : within n lo hi = decide (n ≤ hi) := by simp [within, h1]
    have Hr := Lib.hid hr; clear hr
    go_enter Try.func28, Try.ntmps28
    go_wp2
    go_ret
    exact ⟨by rw [Hr.out]; rfl, rfl⟩
  · have hr : within n lo hi = false := within_ne (fun h => h1 h.1)
    have Hr := Lib.hid hr; clear hr
    go_enter Try.func28, Try.ntmps28
    go_wp2
    go_ret
    exact ⟨by rw [Hr.out]; rfl, rfl⟩

theorem within_any (n lo hi : Int) (w : World) : Calls Try.prog 34 #[.int .i64 n, .int .i64 lo, .int .i64 hi] w (Gives (.bool (within n lo hi)) w) :=
  (within_k n lo hi w).mono fun _ _ ⟨h1, h2⟩ => ⟨h1, h2 ▸ Below.refl _ _⟩

theorem within_kis (r : Bool) (n lo hi : Int) (w : World) (h : within n lo hi = r) : Calls Try.prog 34 #[.int .i64 n, .int .i64 lo, .int .i64 hi] w (Keeps (.bool r) w) := h ▸ within_k n lo hi w

theorem l00In_is (r : Bool) (n lo hi : Int) (w : World) (h : within n lo hi = r) : Calls Try.prog 28 #[.int .i64 n, .int .i64 lo, .int .i64 hi] w (Keeps (.bool r) w) := h ▸ l00In_k n lo hi w

theorem all_of_idx {α : Type} (d : α) (p : α → Bool) (l : List α) (h : ∀ i, i < l.length → p (l[i]?.getD d) = true) : l.all p = true := by
  rw [List.all_eq_true]
  intro x hx
  obtain ⟨i, hi, rfl⟩ := List.getElem_of_mem hx
  have := h i hi
  simpa [List.getElem?_eq_getElem hi] using this

theorem all_not_idx {α : Type} (d : α) (p : α → Bool) (l : List α) (i : Nat) (hi : i < l.length) (h : p (l[i]?.getD d) = false) : l.all p = false := by
  rw [Bool.eq_false_iff]
  intro ha
  rw [List.all_eq_true] at ha
  have := ha l[i] (List.getElem_mem hi)
  simp [List.getElem?_eq_getElem hi] at h
  rw [h] at this
  cases this

/-- Where a function answers yes for the first time, -1 where it never does. -/
def firstIdx {α : Type} (p : α → Bool) : List α → Int
  | [] => -1
  | a :: l => if p a then 0 else if firstIdx p l < 0 then -1 else firstIdx p l + 1

theorem firstIdx_none {α : Type} (p : α → Bool) (l : List α) (h : ∀ x, x ∈ l → p x = false) : firstIdx p l = -1 := by
  induction l with
  | nil => rfl
  | cons a l ih =>
    have h1 := ih (fun x hx => h x (by simp [hx]))
    simp [firstIdx, h a (by simp), h1]

theorem firstIdx_at {α : Type} (p : α → Bool) (l : List α) (k : Nat) (x : α) (hk : l[k]? = some x) (hx : p x = true) (h : ∀ i y, i < k → l[i]? = some y → p y = false) : firstIdx p l = k := by
  induction l generalizing k with
  | nil => simp at hk
  | cons a l ih =>
    cases k with
    | zero =>
      simp only [List.getElem?_cons_zero, Option.some.injEq] at hk
      subst hk
      simp [firstIdx, hx]
    | succ k =>
      have h0 := h 0 a (by omega) rfl
      have h1 := ih k (by simpa using hk) (fun i y hi hy => h (i + 1) y (by omega) (by simpa using hy))
      have h2 : ¬ ((k : Int) < 0) := by omega
      simp [firstIdx, h0, h1, h2]

theorem firstIdx_any {α : Type} (p : α → Bool) (l : List α) : decide (0 ≤ firstIdx p l) = l.any p := by
  induction l with
  | nil => rfl
  | cons a l ih =>
    rw [List.any_cons, ← ih]
    have e : firstIdx p (a :: l) = if p a = true then 0 else if firstIdx p l < 0 then -1 else firstIdx p l + 1 := rfl
    rw [e]
    by_cases h : p a = true
    · simp [h]
    · rw [if_neg h]
      have h' : p a = false := by simpa using h
      rw [h', Bool.false_or]
      by_cases h2 : firstIdx p l < 0
      · rw [if_pos h2, decide_eq_false (by omega), decide_eq_false (by omega)]
      · rw [if_neg h2, decide_eq_true (by omega), decide_eq_true (by omega)]

set_option maxHeartbeats 400000 in
theorem indexFunc_ints (v : Value) (l : List Int) (B : Nat) (w : World) (f : FuncId) (x y : Array Value) (p : Int → Bool) (hB0 : B ≤ w.heap.size) (h : intsE.rd w B [v] l)
    (hcf : ∀ args w1, (callFunc f args).run Try.prog w1 = .ok (.enter f args) w1)
    (hf : ∀ z w1, Below w.heap.size w w1 → Calls Try.prog f (x.push (.int .i64 z) ++ y) w1 (Gives (.bool (p z)) w1)) :
    Calls Try.prog 69 #[v, .func (.func f) x y] w (Gives (.int .i64 (firstIdx p l)) w) := by
  obtain ⟨a, cap, rfl, h1, h2, -, h4⟩ := rd_ints h
  obtain ⟨n, hn⟩ : ∃ n, n = l.length := ⟨_, rfl⟩
  rw [← hn] at h4 h1 ⊢
  have Hn := Lib.hid hn; clear hn h
  have H4 := Lib.hid h4; clear h4
  have Hf := Lib.hid hf; clear hf
  go_enter Try.func69, Try.ntmps69
  go_wp2
  go_loopw [4, 5, 8] (fun _ _ i wr => ∃ k : Nat, k ≤ n ∧ i = .int .i64 k ∧ Below w.heap.size w wr ∧ Hid (∀ i y, i < k → l[i]? = some y → p y = false)) (fun _ _ i _ => n - (intOf i).toNat)
  case atStart => exact ⟨0, by omega, rfl, Below.refl _ _, Lib.hid (fun i y hi => absurd hi (by omega))⟩
  case round =>
    obtain ⟨k, hk, rfl, hB, HE⟩ := hrel
    by_cases hlt : k < n
    · obtain ⟨b, o, rfl, -, hc, -, -⟩ := H4.out k hlt
      have c1 := (hB.cell (World.block_lt_of_cell? w _ hc)).trans hc
      clear hc
      have hkl := get_some 0 (l := l) (k := k) (by rw [← Hn.out]; exact hlt)
      have HK := Lib.hid hkl; clear hkl
      go_wp2_with fail
      refine (Hf.out _ _ hB).mono ?_
      rintro e w1 ⟨rfl, hbl⟩
      have B1 := Lib.hid (hB.trans (hbl.mono hB.size)); clear hB hbl
      by_cases hp : p (l[k]?.getD 0) = true
      · go_wp2
        go_ret
        refine ⟨?_, B1.out⟩
        rw [firstIdx_at p l k _ HK.out hp HE.out]
        rfl
      · rw [Bool.not_eq_true] at hp
        go_wp2
        go_roundw
        case rel =>
          refine ⟨k + 1, by omega, by go_num, B1.out, Lib.hid (fun i y hi hy => ?_)⟩
          by_cases e : i = k
          · subst e
            rw [HK.out] at hy
            cases hy
            exact hp
          · exact HE.out i y (by omega) hy
        case measure => simp [intOf]; omega
    · obtain rfl : k = n := by omega
      go_wp2
      go_ret
      refine ⟨?_, hB⟩
      rw [firstIdx_none p l (fun x hx => ?_)]
      · rfl
      · obtain ⟨i, hi, rfl⟩ := List.getElem_of_mem hx
        exact HE.out i _ (by rw [Hn.out]; exact hi) (List.getElem?_eq_getElem hi)

set_option maxHeartbeats 400000 in
theorem containsFunc_ints (v : Value) (l : List Int) (B : Nat) (w : World) (f : FuncId) (x y : Array Value) (p : Int → Bool) (hB0 : B ≤ w.heap.size) (h : intsE.rd w B [v] l)
    (hcf : ∀ args w1, (callFunc f args).run Try.prog w1 = .ok (.enter f args) w1)
    (hf : ∀ z w1, Below w.heap.size w w1 → Calls Try.prog f (x.push (.int .i64 z) ++ y) w1 (Gives (.bool (p z)) w1)) :
    Calls Try.prog 64 #[v, .func (.func f) x y] w (Gives (.bool (l.any p)) w) := by
  obtain ⟨a, n, cap, rfl⟩ := rd_slice h
  have Hf := Lib.hid hf; clear hf
  have H := Lib.hid h; clear h
  have Hcf := Lib.hid hcf; clear hcf
  go_enter Try.func64, Try.ntmps64
  go_wp2_with fail
  refine (indexFunc_ints _ l B _ f x y p hB0 H.out Hcf.out Hf.out).mono ?_
  rintro e w1 ⟨rfl, hbl⟩
  have he := Lib.hid (firstIdx_any p l)
  generalize firstIdx p l = j at *
  go_wp2
  go_ret
  exact ⟨by rw [← he.out]; rfl, hbl⟩

end Go.Proofs.Ytmbecaiieibcjaa
