/-
  What this claim leans on: values in cells, contracts of functions (19 texts of this claim's own, laid together).
-/
import Derived.Test.YtnkhgfdlehhjmaaDoorPackA
import Derived.PlainAid
import Derived.Test.YtnkhgfdlehhjmaaDoorRows
/-
  Contracts of the library's ContainsFunc and IndexFunc at the program's types, for whatever function value that answers a Bool of the element; and of the smallest functions of the program.
-/
namespace Go.Proofs.YtnkhgfdlehhjmaaDoor
open Go.RowKit

/-- A number lies in a range. -/
def within (n lo hi : Int) : Bool := decide (lo ≤ n) && decide (n ≤ hi)

theorem within_true {n lo hi : Int} : within n lo hi = true ↔ lo ≤ n ∧ n ≤ hi := by simp [within]
theorem within_eq {n lo hi : Int} (h : lo ≤ n ∧ n ≤ hi) : within n lo hi = true := within_true.2 h
theorem within_ne {n lo hi : Int} (h : ¬ (lo ≤ n ∧ n ≤ hi)) : within n lo hi = false := by
  rw [Bool.eq_false_iff]; exact fun e => h (within_true.1 e)

theorem within_k (n lo hi : Int) (w : World) : Calls Tryd.prog 74 #[.int .i64 n, .int .i64 lo, .int .i64 hi] w (Keeps (.bool (within n lo hi)) w) := by
  by_cases h1 : lo ≤ n
  · have hr : within n lo hi = decide (n ≤ hi) := by simp [within, h1]
    have Hr := Lib.hid hr; clear hr
    go_enter Tryd.func74, Tryd.ntmps74
    go_wp2
    go_ret
    exact ⟨by rw [Hr.out]; rfl, rfl⟩
  · have hr : within n lo hi = false := within_ne (fun h => h1 h.1)
    have Hr := Lib.hid hr; clear hr
    go_enter Tryd.func74, Tryd.ntmps74
    go_wp2
    go_ret
    exact ⟨by rw [Hr.out]; rfl, rfl⟩

theorem l00In_k (n lo hi : Int) (w : World) : Calls Tryd.prog 69 #[.int .i64 n, .int .i64 lo, .int .i64 hi] w (Keeps (.bool (within n lo hi)) w) := by
  by_cases h1 : lo ≤ n
  · have hr : within n lo hi = decide (n ≤ hi) := by simp [within, h1]
    have Hr := Lib.hid hr; clear hr
    go_enter Tryd.func69, Tryd.ntmps69
    go_wp2
    go_ret
    exact ⟨by rw [Hr.out]; rfl, rfl⟩
  · have hr : within n lo hi = false := within_ne (fun h => h1 h.1)
    have Hr := Lib.hid hr; clear hr
    go_enter Tryd.func69, Tryd.ntmps69
    go_wp2
    go_ret
    exact ⟨by rw [Hr.out]; rfl, rfl⟩

theorem within_any (n lo hi : Int) (w : World) : Calls Tryd.prog 74 #[.int .i64 n, .int .i64 lo, .int .i64 hi] w (Gives (.bool (within n lo hi)) w) :=
  (within_k n lo hi w).mono fun _ _ ⟨h1, h2⟩ => ⟨h1, h2 ▸ Below.refl _ _⟩

theorem within_kis (r : Bool) (n lo hi : Int) (w : World) (h : within n lo hi = r) : Calls Tryd.prog 74 #[.int .i64 n, .int .i64 lo, .int .i64 hi] w (Keeps (.bool r) w) := h ▸ within_k n lo hi w

theorem l00In_is (r : Bool) (n lo hi : Int) (w : World) (h : within n lo hi = r) : Calls Tryd.prog 69 #[.int .i64 n, .int .i64 lo, .int .i64 hi] w (Keeps (.bool r) w) := h ▸ l00In_k n lo hi w

theorem all_of_idx {α : Type} (d : α) (p : α → Bool) (l : List α) (h : ∀ i, i < l.length → p (l[i]?.getD d) = true) : l.all p = true := by
  rw [List.all_eq_true]
  intro x hx
  obtain ⟨i, hi, rfl⟩ := List.getElem_of_mem hx
  have := h i hi
  simpa [List.getElem?_eq_getElem hi] using this

theorem all_not_idx {α : Type} (d : α) (p : α → Bool) (l : List α) (i : Nat) (hi : i < l.length) (h : p (l[i]?.getD d) = false) : l.all p = false := by
  rw [Bool.eq_false_iff]
  intro ha
  rw [List.all_eq_true] at ha
  have := ha l[i] (List.getElem_mem hi)
  simp [List.getElem?_eq_getElem hi] at h
  rw [h] at this
  cases this

/-- Where a function answers yes for the first time, -1 where it never does. -/
def firstIdx {α : Type} (p : α → Bool) : List α → Int
  | [] => -1
  | a :: l => if p a then 0 else if firstIdx p l < 0 then -1 else firstIdx p l + 1

theorem firstIdx_none {α : Type} (p : α → Bool) (l : List α) (h : ∀ x, x ∈ l → p x = false) : firstIdx p l = -1 := by
  induction l with
  | nil => rfl
  | cons a l ih =>
    have h1 := ih (fun x hx => h x (by simp [hx]))
    simp [firstIdx, h a (by simp), h1]

theorem firstIdx_at {α : Type} (p : α → Bool) (l : List α) (k : Nat) (x : α) (hk : l[k]? = some x) (hx : p x = true) (h : ∀ i y, i < k → l[i]? = some y → p y = false) : firstIdx p l = k := by
  induction l generalizing k with
  | nil => simp at hk
  | cons a l ih =>
    cases k with
    | zero =>
      simp only [List.getElem?_cons_zero, Option.some.injEq] at hk
      subst hk
      simp [firstIdx, hx]
    | succ k =>
      have h0 := h 0 a (by omega) rfl
      have h1 := ih k (by simpa using hk) (fun i y hi hy => h (i + 1) y (by omega) (by simpa using hy))
      have h2 : ¬ ((k : Int) < 0) := by omega
      simp [firstIdx, h0, h1, h2]

theorem firstIdx_any {α : Type} (p : α → Bool) (l : List α) : decide (0 ≤ firstIdx p l) = l.any p := by
  induction l with
  | nil => rfl
  | cons a l ih =>
    rw [List.any_cons, ← ih]
    have e : firstIdx p (a :: l) = if p a = true then 0 else if firstIdx p l < 0 then -1 else firstIdx p l + 1 := rfl
    rw [e]
    by_cases h : p a = true
    · simp [h]
    · rw [if_neg h]
      have h' : p a = false := by simpa using h
      rw [h', Bool.false_or]
      by_cases h2 : firstIdx p l < 0
      · rw [if_pos h2, decide_eq_false (by omega), decide_eq_false (by omega)]
      · rw [if_neg h2, decide_eq_true (by omega), decide_eq_true (by omega)]

end Go.Proofs.YtnkhgfdlehhjmaaDoor

/-
  Plain lemmas on a range of numbers. No program is named here.
-/
namespace Go.Proofs.YtnkhgfdlehhjmaaDoor

theorem range_all {p : Nat → Bool} {n : Nat} (h : ∀ k, k < n → p k = true) : (List.range n).all p = true := by
  rw [List.all_eq_true]; intro x hx; exact h x (List.mem_range.1 hx)
theorem range_not {p : Nat → Bool} {n k : Nat} (hk : k < n) (h : p k = false) : (List.range n).all p = false := by
  rw [Bool.eq_false_iff]; intro ha; rw [List.all_eq_true] at ha; have := ha k (List.mem_range.2 hk); rw [h] at this; cases this

end Go.Proofs.YtnkhgfdlehhjmaaDoor

/-
  What may be written with a move: the program's and the reference's test of a text.
-/
namespace Go.Proofs.YtnkhgfdlehhjmaaDoor
open Go.RowKit Go.PlainAid

def outOk (t : ByteArray) : Bool := decide (t.size ≤ 3) && t.data.toList.all fun b => [97, 98, 99].contains b

theorem drop_all (p : UInt8 → Bool) : ∀ l : List UInt8, l.all p = true → l.dropWhile p = []
  | [], _ => rfl
  | b :: l, h => by
    rw [List.all_cons, Bool.and_eq_true] at h
    rw [List.dropWhile_cons, if_pos h.1]
    exact drop_all p l h.2
theorem drop_some (p : UInt8 → Bool) : ∀ l : List UInt8, l.all p = false → ∃ b r, l.dropWhile p = b :: r ∧ p b = false
  | [], h => by cases h
  | b :: l, h => by
    rw [List.dropWhile_cons]
    by_cases hb : p b = true
    · rw [if_pos hb]
      rw [List.all_cons, hb, Bool.true_and] at h
      exact drop_some p l h
    · rw [if_neg hb]
      exact ⟨b, l, rfl, by simpa using hb⟩
theorem trim_all (l cs : List UInt8) (h : l.all (fun b => cs.contains b) = true) : Lib.trimS l cs = [] := by
  have h1 : l.reverse.dropWhile (cs.contains ·) = [] := drop_all _ _ (by rw [List.all_reverse]; exact h)
  unfold Lib.trimS Lib.trimRightS Lib.trimLeftS
  rw [h1]
  rfl
theorem trim_some (l cs : List UInt8) (h : l.all (fun b => cs.contains b) = false) : Lib.trimS l cs ≠ [] := by
  obtain ⟨b, r, h1, h2⟩ := drop_some (cs.contains ·) l.reverse (by rw [List.all_reverse]; exact h)
  unfold Lib.trimS Lib.trimRightS Lib.trimLeftS
  rw [h1]
  intro e
  have h3 : (b :: r).reverse.all (cs.contains ·) = false := by rw [List.all_reverse, List.all_cons, h2]; rfl
  obtain ⟨b', r', h4, -⟩ := drop_some (cs.contains ·) _ h3
  rw [h4] at e
  cases e

set_option maxHeartbeats 1000000 in
theorem isOut_any (t : ByteArray) (w : World) (hs : t.size ≤ maxLen) :
    Calls Tryd.prog 48 #[.string t] w (Gives (.bool (outOk t)) w) := by
  have hcon := Any.strings_Trim_laid Tryd.lays160 (by kernel_rfl) t ⟨#[97, 98, 99]⟩ w hs (by decide) (ascii_of_all (by decide))
  change Calls Tryd.prog 78 _ _ (fun e w' => e = .returned (.string ⟨(Lib.trimS t.data.toList [97, 98, 99]).toArray⟩) ∧ Below w.heap.size w w') at hcon
  unfold outOk
  by_cases h3 : t.size ≤ 3
  case neg =>
    rw [decide_eq_false h3, Bool.false_and]
    have t1 : ¬ (t.size : Int) ≤ 3 := by omega
    clear hcon
    go_enter Tryd.func48, Tryd.ntmps48
    go_wp2
    go_ret
    exact ⟨rfl, Below.refl _ _⟩
  rw [decide_eq_true h3, Bool.true_and]
  have t1 : (t.size : Int) ≤ 3 := by omega
  cases hall : t.data.toList.all fun b => [97, 98, 99].contains b
  · have hne := trim_some _ _ hall
    generalize Lib.trimS t.data.toList [97, 98, 99] = r at hcon hne
    go_enter Tryd.func48, Tryd.ntmps48
    go_wp2_with fail
    refine hcon.mono ?_
    rintro e w1 ⟨rfl, hB⟩
    obtain ⟨b, r', rfl⟩ := List.exists_cons_of_ne_nil hne
    go_wp2
    go_ret
    exact ⟨rfl, hB⟩
  · have he := trim_all _ _ hall
    rw [he] at hcon
    go_enter Tryd.func48, Tryd.ntmps48
    go_wp2_with fail
    refine hcon.mono ?_
    rintro e w1 ⟨rfl, hB⟩
    go_wp2
    go_ret
    exact ⟨rfl, hB⟩

theorem isOut_is (r : Bool) (t : ByteArray) (w : World) (hr : outOk t = r) (hs : t.size ≤ maxLen) : Calls Tryd.prog 48 #[.string t] w (Gives (.bool r) w) := hr ▸ isOut_any t w hs

/-- A word in the first letters. -/
def wordIn (n : Int) (t : ByteArray) : Bool := (List.range t.size).all fun k => within (bt t k - 97) 0 (n - 1)

set_option maxHeartbeats 1000000 in
theorem l01Word_any (n : Int) (t : ByteArray) (w : World) (hn : 1 ≤ n ∧ n ≤ 100) (hs : t.size ≤ maxLen) :
    Calls Tryd.prog 71 #[.int .i64 n, .string t] w (Keeps (.bool (wordIn n t)) w) := by
  obtain ⟨m, hm⟩ : ∃ m, m = t.size := ⟨_, rfl⟩
  have hb := get_bt t
  have HW : Hid (wordIn n t = (List.range m).all fun k => within (bt t k - 97) 0 (n - 1)) := Lib.hid (by unfold wordIn; rw [hm])
  have wn : IntKind.i64.wrap (n - 1) = n - 1 := IntWalk.i64_in _ ⟨by omega, by omega⟩
  simp only [maxLen] at hs
  go_enter Tryd.func71, Tryd.ntmps71
  go_wp2
  go_loop [5] (fun i => ∃ k : Nat, k ≤ t.size ∧ i = .int .i64 k ∧ Hid (∀ i, i < k → within (bt t i - 97) 0 (n - 1) = true)) (fun i => t.size - (intOf i).toNat)
  case atStart => exact ⟨0, by omega, rfl, Lib.hid (fun i hi => absurd hi (by omega))⟩
  case round =>
    obtain ⟨k, hk, rfl, HE⟩ := hrel
    by_cases hlt : k < t.size
    case neg =>
      have t1 : ¬ (k : Int) < (t.size : Int) := by omega
      go_wp2
      go_ret
      have : wordIn n t = true := by rw [HW.out]; exact range_all (fun i hi => HE.out i (by omega))
      exact ⟨by rw [this]; rfl, rfl⟩
    have t1 : (k : Int) < (t.size : Int) := by omega
    have b0 := bt_nonneg t k
    have b1 := bt_le t k
    cases hok : within (bt t k - 97) 0 (n - 1)
    · have HOK := Lib.hid hok
      clear hok
      go_wp2_with fail
      refine (l00In_is false _ _ _ _ HOK.out).mono ?_
      rintro e w1 ⟨rfl, rfl⟩
      go_wp2
      go_ret
      have : wordIn n t = false := by rw [HW.out, hm]; exact range_not hlt HOK.out
      exact ⟨by rw [this]; rfl, rfl⟩
    · have HOK := Lib.hid hok
      clear hok
      go_wp2_with fail
      refine (l00In_is true _ _ _ _ HOK.out).mono ?_
      rintro e w1 ⟨rfl, rfl⟩
      go_wp2
      go_round
      case rel => exact ⟨k + 1, by omega, by go_num, Lib.hid (fun i hi => by by_cases h : i = k; (subst h; exact HOK.out); exact HE.out i (by omega))⟩
      case measure => simp [intOf]; omega

theorem l01Word_is (r : Bool) (n : Int) (t : ByteArray) (w : World) (hr : wordIn n t = r) (hn : 1 ≤ n ∧ n ≤ 100) (hs : t.size ≤ maxLen) :
    Calls Tryd.prog 71 #[.int .i64 n, .string t] w (Keeps (.bool r) w) := hr ▸ l01Word_any n t w hn hs

theorem abc_in (b : UInt8) : ([97, 98, 99] : List UInt8).contains b = within ((b.toNat : Int) - 97) 0 2 := by
  have key : (List.range 256).all (fun n => (([97, 98, 99] : List UInt8).contains (UInt8.ofNat n)) == within ((n : Int) - 97) 0 2) = true := by kernel_rfl
  have := List.all_eq_true.1 key b.toNat (List.mem_range.2 b.toNat_lt)
  simpa using this

theorem outOk_word (t : ByteArray) : outOk t = (decide (t.size ≤ 3) && wordIn 3 t) := by
  unfold outOk
  congr 1
  rw [Bool.eq_iff_iff, List.all_eq_true]
  unfold wordIn
  rw [List.all_eq_true]
  have hsz := Lib.size_eq t
  constructor
  · intro h k hk
    have hk := List.mem_range.1 hk
    have h1 := h (t.data.toList[k]'(by omega)) (List.getElem_mem _)
    rw [abc_in] at h1
    unfold bt
    rw [dif_pos hk]
    exact h1
  · intro h b hb
    obtain ⟨k, hk, rfl⟩ := List.getElem_of_mem hb
    have h1 := h k (List.mem_range.2 (by omega))
    unfold bt at h1
    rw [dif_pos (by omega)] at h1
    rw [abc_in]
    exact h1

set_option maxHeartbeats 1000000 in
theorem l07Text_any (t : ByteArray) (w : World) (hs : t.size ≤ maxLen) :
    Calls Tryd.prog 40 #[.string t] w (Keeps (.bool (outOk t)) w) := by
  rw [outOk_word]
  by_cases h3 : t.size ≤ 3
  case neg =>
    rw [decide_eq_false h3, Bool.false_and]
    have t1 : ¬ (t.size : Int) ≤ 3 := by omega
    go_enter Tryd.func40, Tryd.ntmps40
    go_wp2
    go_ret
    exact ⟨rfl, rfl⟩
  rw [decide_eq_true h3, Bool.true_and]
  have t1 : (t.size : Int) ≤ 3 := by omega
  cases hw : wordIn 3 t
  · have HW := Lib.hid hw
    clear hw
    go_enter Tryd.func40, Tryd.ntmps40
    go_wp2_with fail
    refine (l01Word_is false _ _ _ HW.out (by omega) hs).mono ?_
    rintro e w1 ⟨rfl, rfl⟩
    go_wp2
    go_ret
    exact ⟨rfl, rfl⟩
  · have HW := Lib.hid hw
    clear hw
    go_enter Tryd.func40, Tryd.ntmps40
    go_wp2_with fail
    refine (l01Word_is true _ _ _ HW.out (by omega) hs).mono ?_
    rintro e w1 ⟨rfl, rfl⟩
    go_wp2
    go_ret
    exact ⟨rfl, rfl⟩

theorem l07Text_is (r : Bool) (t : ByteArray) (w : World) (hr : outOk t = r) (hs : t.size ≤ maxLen) : Calls Tryd.prog 40 #[.string t] w (Keeps (.bool r) w) := hr ▸ l07Text_any t w hs

set_option maxHeartbeats 1000000 in
theorem notOut_any (t : ByteArray) (w : World) (hs : t.size ≤ maxLen) :
    Calls Tryd.prog 47 #[.string t] w (Gives (.bool (!outOk t)) w) := by
  obtain ⟨r, hr⟩ : ∃ r, r = outOk t := ⟨_, rfl⟩
  rw [← hr]
  have HR := Lib.hid hr.symm
  clear hr
  cases r <;>
  · go_enter Tryd.func47, Tryd.ntmps47
    go_wp2_with fail
    refine (isOut_is _ _ _ HR.out hs).mono ?_
    rintro e w1 ⟨rfl, hB⟩
    go_wp2
    go_ret
    exact ⟨rfl, hB⟩

end Go.Proofs.YtnkhgfdlehhjmaaDoor

/-
  What a right move is, and the contracts of the functions that ask it (written by a program of this claim's own, gen_moveok.py).
-/
namespace Go.Proofs.YtnkhgfdlehhjmaaDoor
open Go.RowKit

def isStopB (m : Move) : Bool := (m.to == -1 || m.to == -2) && m.dir == 0

/-- A turner's move is right for so many states and letters at the index of a letter or mark. -/
def moveOk (m : Move) (states letters at_ : Int) : Bool :=
  isStopB m || (within m.to 0 (states - 1) && within m.dir (-1) 1 && !(at_ == letters && m.dir == -1) && !(at_ == letters + 1 && m.dir == 1))

/-- A pebbler's. -/
def pmoveOk (m : PMove) (states letters at_ : Int) (lies : Bool) : Bool :=
  moveOk ⟨m.to, m.dir⟩ states letters at_ && within m.does 0 2 && (!(decide (m.to < 0) && m.does != 0) && !(lies && m.does == 1) && !(!lies && m.does == 2))

theorem isStop_any (m : Move) (w : World) : Calls Tryd.prog 89 #[.agg #[.int .i64 m.to, .int .i64 m.dir]] w (Gives (.bool (isStopB m)) w) := by
  cases h1 : (m.to == -1) <;> cases h2 : (m.to == -2) <;> cases h3 : (m.dir == 0)
  all_goals
    have hr := Lib.hid (show isStopB m = _ by unfold isStopB; rw [h1, h2, h3])
    go_enter Tryd.func89, Tryd.ntmps89
    go_wp2
    go_ret
    exact ⟨by rw [hr.out]; rfl, (Below.refl _ _).alloc (Nat.le_refl _) _⟩

theorem isStop_is (r : Bool) (m : Move) (w : World) (h : isStopB m = r) : Calls Tryd.prog 89 #[.agg #[.int .i64 m.to, .int .i64 m.dir]] w (Gives (.bool r) w) := h ▸ isStop_any m w

theorem stops_any (m : Move) (w : World) : Calls Tryd.prog 83 #[.agg #[.int .i64 m.to, .int .i64 m.dir]] w (Gives (.bool (decide (m.to < 0))) w) := by
  go_enter Tryd.func83, Tryd.ntmps83
  go_wp2
  go_ret
  exact ⟨rfl, (Below.refl _ _).alloc (Nat.le_refl _) _⟩

set_option maxHeartbeats 1000000 in
theorem isMove_any (m : Move) (states letters at_ : Int) (w : World) (hs : 0 ≤ states ∧ states ≤ 1152921504606846976) (hl : -1152921504606846976 ≤ letters ∧ letters ≤ 1152921504606846976) :
    Calls Tryd.prog 76 #[.agg #[.int .i64 m.to, .int .i64 m.dir], .int .i64 states, .int .i64 letters, .int .i64 at_] w (Gives (.bool (moveOk m states letters at_)) w) := by
  have hw1 : IntKind.i64.wrap (states - 1) = states - 1 := IntWalk.i64_in _ ⟨by omega, by omega⟩
  have hw2 : IntKind.i64.wrap (letters + 1) = letters + 1 := IntWalk.i64_in _ ⟨by omega, by omega⟩
  clear hs hl
  cases h0 : isStopB m
  case true =>
    have hr := Lib.hid (show moveOk m states letters at_ = true by unfold moveOk; rw [h0]; rfl)
    have H0 := Lib.hid h0; clear h0
    go_enter Tryd.func76, Tryd.ntmps76
    go_wp2_with fail
    generalize hW : w.alloc _ = w0
    obtain ⟨A0, hB⟩ := blk1 hW
    clear hW
    refine (isStop_is true m _ H0.out).mono ?_
    rintro e w1 ⟨rfl, hbl⟩
    have B1 := hB.trans (hbl.mono hB.size)
    clear hbl hB A0
    go_wp2
    go_ret
    exact ⟨by rw [hr.out]; rfl, B1⟩
  have H0 := Lib.hid h0
  cases h1 : within m.to 0 (states - 1)
  case false =>
    have hr := Lib.hid (show moveOk m states letters at_ = false by unfold moveOk; rw [h0, h1]; rfl)
    have H1 := Lib.hid h1; clear h0 h1
    go_enter Tryd.func76, Tryd.ntmps76
    go_wp2_with fail
    generalize hW : w.alloc _ = w0
    obtain ⟨A0, hB⟩ := blk1 hW
    clear hW
    refine (isStop_is false m _ H0.out).mono ?_
    rintro e w1 ⟨rfl, hbl⟩
    have B1 := hB.trans (hbl.mono hB.size)
    have A1 := A0.of hbl A0.lt
    have c0 := A1.cell 0 rfl
    have c1 := A1.cell 1 rfl
    clear hbl hB A0 A1
    have HB1 := Lib.hid B1; clear B1
    go_wp2_with fail
    refine (within_kis false _ _ _ _ H1.out).mono ?_
    rintro e w2 ⟨rfl, rfl⟩
    go_wp2
    go_ret
    exact ⟨by rw [hr.out]; rfl, HB1.out⟩
  have H1 := Lib.hid h1
  cases h2 : within m.dir (-1) 1
  case false =>
    have hr := Lib.hid (show moveOk m states letters at_ = false by unfold moveOk; rw [h0, h1, h2]; rfl)
    have H2 := Lib.hid h2; clear h0 h1 h2
    go_enter Tryd.func76, Tryd.ntmps76
    go_wp2_with fail
    generalize hW : w.alloc _ = w0
    obtain ⟨A0, hB⟩ := blk1 hW
    clear hW
    refine (isStop_is false m _ H0.out).mono ?_
    rintro e w1 ⟨rfl, hbl⟩
    have B1 := hB.trans (hbl.mono hB.size)
    have A1 := A0.of hbl A0.lt
    have c0 := A1.cell 0 rfl
    have c1 := A1.cell 1 rfl
    clear hbl hB A0 A1
    have HB1 := Lib.hid B1; clear B1
    go_wp2_with fail
    refine (within_kis true _ _ _ _ H1.out).mono ?_
    rintro e w2 ⟨rfl, rfl⟩
    go_wp2_with fail
    refine (within_kis false _ _ _ _ H2.out).mono ?_
    rintro e w3 ⟨rfl, rfl⟩
    go_wp2
    go_ret
    exact ⟨by rw [hr.out]; rfl, HB1.out⟩
  have H2 := Lib.hid h2
  cases h3 : (at_ == letters) <;> cases h4 : (m.dir == -1) <;> cases h5 : (at_ == letters + 1) <;> cases h6 : (m.dir == 1)
  all_goals
    have hr := Lib.hid (show moveOk m states letters at_ = _ by unfold moveOk; rw [h0, h1, h2, h3, h4, h5, h6])
    clear h0 h1 h2
    go_enter Tryd.func76, Tryd.ntmps76
    go_wp2_with fail
    generalize hW : w.alloc _ = w0
    obtain ⟨A0, hB⟩ := blk1 hW
    clear hW
    refine (isStop_is false m _ H0.out).mono ?_
    rintro e w1 ⟨rfl, hbl⟩
    have B1 := hB.trans (hbl.mono hB.size)
    have A1 := A0.of hbl A0.lt
    have c0 := A1.cell 0 rfl
    have c1 := A1.cell 1 rfl
    clear hbl hB A0 A1
    have HB1 := Lib.hid B1; clear B1
    go_wp2_with fail
    refine (within_kis true _ _ _ _ H1.out).mono ?_
    rintro e w2 ⟨rfl, rfl⟩
    go_wp2_with fail
    refine (within_kis true _ _ _ _ H2.out).mono ?_
    rintro e w3 ⟨rfl, rfl⟩
    go_wp2
    go_ret
    exact ⟨by rw [hr.out]; rfl, HB1.out⟩

theorem isMove_is (r : Bool) (m : Move) (states letters at_ : Int) (w : World) (hs : 0 ≤ states ∧ states ≤ 1152921504606846976) (hl : -1152921504606846976 ≤ letters ∧ letters ≤ 1152921504606846976) (h : moveOk m states letters at_ = r) :
    Calls Tryd.prog 76 #[.agg #[.int .i64 m.to, .int .i64 m.dir], .int .i64 states, .int .i64 letters, .int .i64 at_] w (Gives (.bool r) w) := h ▸ isMove_any m states letters at_ w hs hl

set_option maxHeartbeats 1000000 in
theorem l02Move_any (m : Move) (states letters at_ : Int) (w : World) (hs : 0 ≤ states ∧ states ≤ 1152921504606846976) (hl : -1152921504606846976 ≤ letters ∧ letters ≤ 1152921504606846976) :
    Calls Tryd.prog 70 #[.agg #[.int .i64 m.to, .int .i64 m.dir], .int .i64 states, .int .i64 letters, .int .i64 at_] w (Gives (.bool (moveOk m states letters at_)) w) := by
  have hw1 : IntKind.i64.wrap (states - 1) = states - 1 := IntWalk.i64_in _ ⟨by omega, by omega⟩
  have hw2 : IntKind.i64.wrap (letters + 1) = letters + 1 := IntWalk.i64_in _ ⟨by omega, by omega⟩
  clear hs hl
  cases h1 : (m.to == -1)
  case true =>
    have hr := Lib.hid (show moveOk m states letters at_ = (m.dir == 0) by have : m.to = -1 := (by simpa using h1); simp [moveOk, isStopB, within, this])
    go_enter Tryd.func70, Tryd.ntmps70
    go_wp2
    go_ret
    exact ⟨by rw [hr.out]; rfl, (Below.refl _ _).alloc (Nat.le_refl _) _⟩
  cases h2 : (m.to == -2)
  case true =>
    have hr := Lib.hid (show moveOk m states letters at_ = (m.dir == 0) by have : m.to = -2 := (by simpa using h2); simp [moveOk, isStopB, within, this])
    go_enter Tryd.func70, Tryd.ntmps70
    go_wp2
    go_ret
    exact ⟨by rw [hr.out]; rfl, (Below.refl _ _).alloc (Nat.le_refl _) _⟩
  have h0 : isStopB m = false := by unfold isStopB; rw [h1, h2]; rfl
  cases t1 : within m.to 0 (states - 1)
  case false =>
    have hr := Lib.hid (show moveOk m states letters at_ = false by unfold moveOk; rw [h0, t1]; rfl)
    have T1 := Lib.hid t1; clear h0 t1
    go_enter Tryd.func70, Tryd.ntmps70
    go_wp2_with fail
    generalize hW : w.alloc _ = w0
    obtain ⟨A0, hB⟩ := blk1 hW
    clear hW
    have c0 := A0.cell 0 rfl
    have c1 := A0.cell 1 rfl
    clear A0
    have HB1 := Lib.hid hB; clear hB
    refine (l00In_is false _ _ _ _ T1.out).mono ?_
    rintro e w2 ⟨rfl, rfl⟩
    go_wp2
    go_ret
    exact ⟨by rw [hr.out]; rfl, HB1.out⟩
  have T1 := Lib.hid t1
  cases t2 : within m.dir (-1) 1
  case false =>
    have hr := Lib.hid (show moveOk m states letters at_ = false by unfold moveOk; rw [h0, t1, t2]; rfl)
    have T2 := Lib.hid t2; clear h0 t1 t2
    go_enter Tryd.func70, Tryd.ntmps70
    go_wp2_with fail
    generalize hW : w.alloc _ = w0
    obtain ⟨A0, hB⟩ := blk1 hW
    clear hW
    have c0 := A0.cell 0 rfl
    have c1 := A0.cell 1 rfl
    clear A0
    have HB1 := Lib.hid hB; clear hB
    refine (l00In_is true _ _ _ _ T1.out).mono ?_
    rintro e w2 ⟨rfl, rfl⟩
    go_wp2_with fail
    refine (l00In_is false _ _ _ _ T2.out).mono ?_
    rintro e w3 ⟨rfl, rfl⟩
    go_wp2
    go_ret
    exact ⟨by rw [hr.out]; rfl, HB1.out⟩
  have T2 := Lib.hid t2
  cases h3 : (at_ == letters) <;> cases h4 : (m.dir == -1) <;> cases h5 : (at_ == letters + 1) <;> cases h6 : (m.dir == 1)
  all_goals
    have hr := Lib.hid (show moveOk m states letters at_ = _ by unfold moveOk; rw [h0, t1, t2, h3, h4, h5, h6])
    clear h0 t1 t2
    go_enter Tryd.func70, Tryd.ntmps70
    go_wp2_with fail
    generalize hW : w.alloc _ = w0
    obtain ⟨A0, hB⟩ := blk1 hW
    clear hW
    have c0 := A0.cell 0 rfl
    have c1 := A0.cell 1 rfl
    clear A0
    have HB1 := Lib.hid hB; clear hB
    refine (l00In_is true _ _ _ _ T1.out).mono ?_
    rintro e w2 ⟨rfl, rfl⟩
    go_wp2_with fail
    refine (l00In_is true _ _ _ _ T2.out).mono ?_
    rintro e w3 ⟨rfl, rfl⟩
    go_wp2
    go_ret
    exact ⟨by rw [hr.out]; rfl, HB1.out⟩

theorem l02Move_is (r : Bool) (m : Move) (states letters at_ : Int) (w : World) (hs : 0 ≤ states ∧ states ≤ 1152921504606846976) (hl : -1152921504606846976 ≤ letters ∧ letters ≤ 1152921504606846976) (h : moveOk m states letters at_ = r) :
    Calls Tryd.prog 70 #[.agg #[.int .i64 m.to, .int .i64 m.dir], .int .i64 states, .int .i64 letters, .int .i64 at_] w (Gives (.bool r) w) := h ▸ l02Move_any m states letters at_ w hs hl

end Go.Proofs.YtnkhgfdlehhjmaaDoor

/-
  Contracts of the program's size, isAlphabet and areStates.
-/
namespace Go.Proofs.YtnkhgfdlehhjmaaDoor
open Go.RowKit

theorem isAlphabet_any (n : Int) (w : World) : Calls Tryd.prog 73 #[.int .i64 n] w (Gives (.bool (within n 1 3)) w) := by
  go_enter Tryd.func73, Tryd.ntmps73
  go_wp2_with fail
  refine (within_any _ _ _ _).mono ?_
  rintro e w1 ⟨rfl, hbl⟩
  go_wp2
  go_ret
  exact ⟨rfl, hbl⟩

theorem within_is (r : Bool) (n lo hi : Int) (w : World) (h : within n lo hi = r) : Calls Tryd.prog 74 #[.int .i64 n, .int .i64 lo, .int .i64 hi] w (Gives (.bool r) w) := h ▸ within_any n lo hi w

theorem isAlphabet_is (r : Bool) (n : Int) (w : World) (h : within n 1 3 = r) : Calls Tryd.prog 73 #[.int .i64 n] w (Gives (.bool r) w) := h ▸ isAlphabet_any n w

/-- So many numbers, each of them a state. -/
def areStates (l : List Int) (count states : Int) : Bool := decide ((l.length : Int) = count) && l.all fun s => within s 0 (states - 1)

theorem any_not {α : Type} (p : α → Bool) (l : List α) : (!l.any fun x => !p x) = l.all p := by
  induction l with
  | nil => rfl
  | cons a l ih => rw [List.any_cons, List.all_cons, Bool.not_or, Bool.not_not, ih]

end Go.Proofs.YtnkhgfdlehhjmaaDoor

/-
  The length, asked by the program's own generic size (written by a program of this claim's own, gen_size.py).
-/
namespace Go.Proofs.YtnkhgfdlehhjmaaDoor
open Go.RowKit

theorem size_moves (v : Value) (l : List (Move)) (B : Nat) (w : World) (h : movesE.rd w B [v] l) : Calls Tryd.prog 75 #[v] w (Gives (.int .i64 l.length) w) := by
  have hl := len_le h
  obtain ⟨a, cap, he, h1, h2, -⟩ := h
  obtain rfl : v = .slice a l.length cap := by simpa using he
  clear he h1 h2
  go_enter Tryd.func75, Tryd.ntmps75
  go_wp2
  go_ret
  exact ⟨rfl, Below.refl _ _⟩

theorem size_movess (v : Value) (l : List (List Move)) (B : Nat) (w : World) (h : movessE.rd w B [v] l) : Calls Tryd.prog 51 #[v] w (Gives (.int .i64 l.length) w) := by
  have hl := len_le h
  obtain ⟨a, cap, he, h1, h2, -⟩ := h
  obtain rfl : v = .slice a l.length cap := by simpa using he
  clear he h1 h2
  go_enter Tryd.func51, Tryd.ntmps51
  go_wp2
  go_ret
  exact ⟨rfl, Below.refl _ _⟩

end Go.Proofs.YtnkhgfdlehhjmaaDoor

/-
  Contracts of the laws' own helpers at one slice type (written by a program of this claim's own, gen_leaf.py).
-/
namespace Go.Proofs.YtnkhgfdlehhjmaaDoor
open Go.RowKit

/-- The cells of one. -/
def cMove (x : Move) : List Value := [.int .i64 x.to, .int .i64 x.dir]

def bdMove (x : Move) : Prop := (-9223372036854775808 ≤ x.to ∧ x.to ≤ 9223372036854775807) ∧ (-9223372036854775808 ≤ x.dir ∧ x.dir ≤ 9223372036854775807)

theorem rd_moveE {w : World} {B : Nat} {cs : List Value} {x : Move} (h : moveE.rd w B cs x) : cs = cMove x ∧ bdMove x := by
  obtain ⟨c0, c1, rfl, ⟨rfl, b0⟩, ⟨rfl, b1⟩⟩ := h
  exact ⟨rfl, b0, b1⟩

theorem ow_moveE {w : World} {x : Move} (h : bdMove x) : moveE.ow w (cMove x) x [] := by
  obtain ⟨b0, b1⟩ := h
  exact ⟨_, _, [], [], rfl, rfl, ⟨⟨rfl, b0⟩, rfl⟩, ⟨⟨rfl, b1⟩, rfl⟩⟩

theorem ow_moveE_inv {w : World} {cs : List Value} {x : Move} {f : List Nat} (h : moveE.ow w cs x f) : cs = cMove x ∧ f = [] ∧ bdMove x := by
  have := rd_moveE (moveE.ow_rd (B := w.heap.size) (moveE.ow_lt h) h)
  obtain ⟨_, _, _, _, rfl, rfl, ⟨⟨_, _⟩, rfl⟩, ⟨⟨_, _⟩, rfl⟩⟩ := h
  exact ⟨this.1, rfl, this.2⟩

theorem rd_movesE {ty : TypeId} {w : World} {B : Nat} {v : Value} {l : List Move} (h : (sliceE moveE ty).rd w B [v] l) :
    ∃ a cap, v = .slice a l.length cap ∧ l.length ≤ cap ∧ cap ≤ 9223372036854775807 ∧ (a = none → cap = 0) ∧
      ∀ k, k < l.length → ∃ b o, a = some ⟨b, o, none⟩ ∧ b < B ∧ (w.cell? ⟨b, o + k * 2, none⟩ = some (.int .i64 (l[k]?.getD default).to) ∧ w.cell? ⟨b, o + k * 2 + 1, none⟩ = some (.int .i64 (l[k]?.getD default).dir)) ∧ bdMove (l[k]?.getD default) := by
  obtain ⟨a, cap, hv, h1, h2, h3, h4⟩ := h
  obtain rfl : v = .slice a l.length cap := by simpa using hv
  refine ⟨a, cap, rfl, h1, by simpa [maxLen] using h2, h3, fun k hk => ?_⟩
  obtain ⟨b, o, xs, e1, e2, e3, e4⟩ := h4 k _ (get_some default hk)
  obtain ⟨rfl, e5⟩ := rd_moveE e3
  have hs : moveE.size = 2 := rfl
  rw [hs] at e4
  exact ⟨b, o, e1, e2, ⟨by have := e4 0 _ rfl; simpa [Nat.add_assoc] using this, by have := e4 1 _ rfl; simpa [Nat.add_assoc] using this⟩, e5⟩

set_option maxHeartbeats 400000 in
theorem toMove_any (x : Move) (w : World) : Calls Tryd.prog 88 #[.agg #[.int .i64 x.to, .int .i64 x.dir]] w (Gives (.agg #[.int .i64 x.to, .int .i64 x.dir]) w) := by
  obtain ⟨x0, x1⟩ := x
  dsimp only
  go_enter Tryd.func88, Tryd.ntmps88
  go_wp2
  refine bodyPost_ret (v := .agg #[.int .i64 x0, .int .i64 x1]) (by simp [results, Tryd.results88, go_sem]) rfl ⟨rfl, ?_⟩
  exact (((Below.refl _ _).alloc (Nat.le_refl _) _).alloc (by simp) _).alloc (by simp only [World.size_alloc]; omega) _

set_option maxHeartbeats 400000 in
theorem eqMove_0 (x0 x1 y0 y1 : Int) (w : World) (e0 : ¬ x0 = y0) : Calls Tryd.prog 98 #[.agg #[.int .i64 x0, .int .i64 x1], .agg #[.int .i64 y0, .int .i64 y1]] w (Gives (.bool false) w) := by
  have t0 : (x0 != y0) = true := by simp [e0]
  clear e0
  go_enter Tryd.func98, Tryd.ntmps98
  go_wp2
  go_ret
  exact ⟨rfl, ((Below.refl _ _).alloc (Nat.le_refl _) _).alloc (by simp) _⟩

set_option maxHeartbeats 400000 in
theorem eqMove_1 (x0 x1 y0 y1 : Int) (w : World) (e0 : x0 = y0) (e1 : ¬ x1 = y1) : Calls Tryd.prog 98 #[.agg #[.int .i64 x0, .int .i64 x1], .agg #[.int .i64 y0, .int .i64 y1]] w (Gives (.bool false) w) := by
  have t0 : (x0 != y0) = false := by simp [e0]
  clear e0
  have t1 : (x1 != y1) = true := by simp [e1]
  clear e1
  go_enter Tryd.func98, Tryd.ntmps98
  go_wp2
  go_ret
  exact ⟨rfl, ((Below.refl _ _).alloc (Nat.le_refl _) _).alloc (by simp) _⟩

set_option maxHeartbeats 400000 in
theorem eqMove_2 (x0 x1 y0 y1 : Int) (w : World) (e0 : x0 = y0) (e1 : x1 = y1) : Calls Tryd.prog 98 #[.agg #[.int .i64 x0, .int .i64 x1], .agg #[.int .i64 y0, .int .i64 y1]] w (Gives (.bool true) w) := by
  have t0 : (x0 != y0) = false := by simp [e0]
  clear e0
  have t1 : (x1 != y1) = false := by simp [e1]
  clear e1
  go_enter Tryd.func98, Tryd.ntmps98
  go_wp2
  go_ret
  exact ⟨rfl, ((Below.refl _ _).alloc (Nat.le_refl _) _).alloc (by simp) _⟩

theorem eqMove_any (x y : Move) (w : World) : Calls Tryd.prog 98 #[.agg #[.int .i64 x.to, .int .i64 x.dir], .agg #[.int .i64 y.to, .int .i64 y.dir]] w (Gives (.bool (decide (x = y))) w) := by
  obtain ⟨x0, x1⟩ := x
  obtain ⟨y0, y1⟩ := y
  dsimp only
  by_cases e0 : x0 = y0
  case neg => rw [decide_eq_false (fun e => e0 (by injection e))]; exact eqMove_0 _ _ _ _ w e0
  by_cases e1 : x1 = y1
  case neg => rw [decide_eq_false (fun e => e1 (by injection e))]; exact eqMove_1 _ _ _ _ w e0 e1
  rw [decide_eq_true (by rw [e0, e1])]; exact eqMove_2 _ _ _ _ w e0 e1

theorem eqMove_is (r : Bool) (x y : Move) (w : World) (h : decide (x = y) = r) : Calls Tryd.prog 98 #[.agg #[.int .i64 x.to, .int .i64 x.dir], .agg #[.int .i64 y.to, .int .i64 y.dir]] w (Gives (.bool r) w) := h ▸ eqMove_any x y w

theorem info_MoveS : (Tryd.prog.info? 65).map (fun i => (i.zero, i.size, i.bytes)) = some (some (.agg #[.int .i64 0, .int .i64 0]), 2, 16) := by kernel_rfl

set_option maxHeartbeats 1000000 in
theorem toMoveS_any (v : Value) (l : List Move) (B : Nat) (w : World) (hB0 : B ≤ w.heap.size) (h : movesE.rd w B [v] l) (hl : l.length ≤ 1048576) :
    Calls Tryd.prog 72 #[v] w (Makes movesE id l w) := by
  obtain ⟨a, cap, rfl, h1, h2, h3, h4⟩ := rd_movesE h
  obtain ⟨i0, hi, hz0, hz1, hz2⟩ := info_parts info_MoveS
  obtain ⟨n, hn⟩ : ∃ n, n = l.length := ⟨_, rfl⟩
  rw [← hn] at hl h4 h1 ⊢
  have hmk := make_runs (P := Tryd.prog) Tryd.underlying66 hi hz0 hz1 n (by rw [hz2]; omega) (by omega)
  have hmo := made_owns2 (w := w) (ty := 65) #[.int .i64 0, .int .i64 0] (.int .i64 0) 2 rfl (by intro i hi; match i, hi with | 0, _ => rfl | 1, _ => rfl) (by decide) n (by simp [maxLen]; omega)
  have Hn := Lib.hid hn; clear hn h
  have H4 := Lib.hid h4; clear h4
  have Hmo := Lib.hid hmo; clear hmo
  clear hi hz0 hz1 hz2
  go_enter Tryd.func72, Tryd.ntmps72
  go_wp2
  simp only [Value.cells] at *
  have hb0 : Below w.heap.size w (w.alloc (Obj.cells (madeCells #[Value.int IntKind.i64 0, Value.int IntKind.i64 0] (n * 2)) 65)) := (Below.refl _ _).alloc (Nat.le_refl _) _
  have HB0 := Lib.hid hb0; clear hb0
  generalize w.alloc (Obj.cells (madeCells #[Value.int IntKind.i64 0, Value.int IntKind.i64 0] (n * 2)) 65) = w1 at *
  obtain ⟨g, hg⟩ : ∃ g, g = w.heap.size := ⟨_, rfl⟩
  rw [← hg] at Hmo HB0 ⊢
  have Hg := Lib.hid hg; clear hg hmk
  go_loopw [4] (fun i wr => ∃ k : Nat, k ≤ n ∧ i = .int .i64 k ∧ Below g w wr ∧ wr.ownsRow g 65 2 (.slice (some ⟨g, 0, none⟩) n n) n ((l.take k).flatMap cMove ++ List.replicate ((n - k) * 2) (.int .i64 0))) (fun i _ => n - (intOf i).toNat)
  case atStart => exact ⟨0, by omega, rfl, HB0.out, by simpa using Hmo.out⟩
  case round =>
    obtain ⟨k, hk, rfl, hB, hO⟩ := hrel
    by_cases hlt : k < n
    · obtain ⟨b, o, rfl, hb, ⟨hc0, hc1⟩, hbd⟩ := H4.out k hlt
      have hlen : ((l.take k).flatMap cMove).length = k * 2 := by rw [flatMap_len cMove 2 (fun _ => rfl)]; have := Hn.out; simp; omega
      have HX := Lib.hid (flatMap_take default cMove l k (by rw [← Hn.out]; exact hlt))
      generalize l[k]?.getD default = x at *
      have c10 := (hB.cell (by rw [Hg.out]; exact World.block_lt_of_cell? w _ hc0)).trans hc0
      have c11 := (hB.cell (by rw [Hg.out]; exact World.block_lt_of_cell? w _ hc1)).trans hc1
      have HO := Lib.hid hO
      have HLen := Lib.hid hlen
      clear hc0 hc1 hbd hO hlen
      go_wp2_with fail
      refine (toMove_any x _).mono ?_
      rintro e w2 ⟨rfl, hbl⟩
      have hO := ownsRow_below HO.out hbl
      have B2 := hB.trans (hbl.mono (by have := hB.size; rw [Hg.out]; omega))
      have hlen := HLen.out
      have z0 : w2.cell? ⟨g, k * 2, none⟩ = some (.int .i64 0) := by
        rw [hO.cellAt (k * 2) (by omega)]; have := tail_get ((l.take k).flatMap cMove) ((n - k) * 2) 0 (.int .i64 0) (by omega); rwa [hlen] at this
      have z1 : w2.cell? ⟨g, k * 2 + 1, none⟩ = some (.int .i64 0) := by
        rw [hO.cellAt (k * 2 + 1) (by omega)]; have := tail_get ((l.take k).flatMap cMove) ((n - k) * 2) 1 (.int .i64 0) (by omega); rwa [hlen] at this
      have f0 := hO.frozenAt (k * 2)
      have f1 := hO.frozenAt (k * 2 + 1)
      have HS := Lib.hid (((hO.stored (k * 2) (.int .i64 x.to)).1.stored (k * 2 + 1) (.int .i64 x.dir)).1)
      clear hO hbl hB hlen c10 c11
      go_wp2
      go_roundw
      case rel =>
        refine ⟨k + 1, by omega, by go_num, (B2.setCell (Nat.le_refl _) _).setCell (Nat.le_refl _) _, ?_⟩
        have hs := HS.out
        rw [show (n - k) * 2 = (n - (k + 1)) * 2 + 2 from by omega, ← HLen.out] at hs
        have hf := fill2 ((l.take k).flatMap cMove) ((n - (k + 1)) * 2) (.int .i64 0) (.int .i64 x.to) (.int .i64 x.dir)
        rw [hf] at hs
        rw [HX.out, HLen.out] at *
        exact hs
      case measure => simp [intOf]; omega
    · obtain rfl : k = n := by omega
      go_wp2
      go_ret
      rw [show l.take k = l from by rw [Hn.out, List.take_length], Nat.sub_self, Nat.zero_mul, List.replicate_zero, List.append_nil] at hO
      refine makes_flats (g := g) cMove (fun x hx => ?_) (by rw [← Hn.out]; exact hO) hB Hg.out
      obtain ⟨i, hi, rfl⟩ := List.getElem_of_mem hx
      obtain ⟨b, o, _, _, _, h5⟩ := H4.out i (by rw [Hn.out]; exact hi)
      simp only [List.getElem?_eq_getElem hi, Option.getD_some] at h5
      exact ow_moveE h5

set_option maxHeartbeats 1000000 in
theorem eqMoveS_any (va vb : Value) (la lb : List Move) (B B' : Nat) (w : World) (ha : movesE.rd w B [va] la) (hb : movesE.rd w B' [vb] lb) :
    Calls Tryd.prog 81 #[va, vb] w (Gives (.bool (decide (la = lb))) w) := by
  obtain ⟨a, ca, rfl, a1, a2, -, a4⟩ := rd_movesE ha
  obtain ⟨b, cb, rfl, b1, b2, -, b4⟩ := rd_movesE hb
  clear ha hb
  have H4 := Lib.hid a4; clear a4
  have K4 := Lib.hid b4; clear b4
  by_cases hlen : la.length = lb.length
  · obtain ⟨n, hn⟩ : ∃ n, n = la.length := ⟨_, rfl⟩
    rw [← hn] at hlen H4 a1 ⊢
    rw [← hlen] at K4 b1 ⊢
    have Hn := Lib.hid hn; clear hn
    have Hl := Lib.hid hlen; clear hlen
    go_enter Tryd.func81, Tryd.ntmps81
    go_wp2
    go_loopw [5] (fun i wr => ∃ k : Nat, k ≤ n ∧ i = .int .i64 k ∧ Below w.heap.size w wr ∧ Hid (∀ i, i < k → la[i]?.getD default = lb[i]?.getD default)) (fun i _ => n - (intOf i).toNat)
    case atStart => exact ⟨0, by omega, rfl, Below.refl _ _, Lib.hid (fun i hi => absurd hi (by omega))⟩
    case round =>
      obtain ⟨k, hk, rfl, hB, HE⟩ := hrel
      by_cases hlt : k < n
      · obtain ⟨p, o, rfl, -, ⟨hp0, hp1⟩, -⟩ := H4.out k hlt
        obtain ⟨p', o', rfl, -, ⟨hq0, hq1⟩, -⟩ := K4.out k hlt
        have p0 := (hB.cell (World.block_lt_of_cell? w _ hp0)).trans hp0
        have p1 := (hB.cell (World.block_lt_of_cell? w _ hp1)).trans hp1
        have q0 := (hB.cell (World.block_lt_of_cell? w _ hq0)).trans hq0
        have q1 := (hB.cell (World.block_lt_of_cell? w _ hq1)).trans hq1
        have g1 : p < wr.heap.size := World.block_lt_of_cell? wr _ p0
        have g2 : p' < wr.heap.size := World.block_lt_of_cell? wr _ q0
        have hov := cell_over wr
        clear hp0 hp1 hq0 hq1
        generalize hx : la[k]?.getD default = x at *
        generalize hy : lb[k]?.getD default = y at *
        have HX := Lib.hid hx; have HY := Lib.hid hy; clear hx hy
        by_cases he : x = y
        · have He := Lib.hid he; clear he
          go_wp2
          refine wp_region_over (by kernel_rfl) (by kernel_rfl) ?_
          repeat (go_big_quiet_step ((go_at_call 98; exact calls_over (eqMove_is true x y _ (decide_eq_true He.out)))))
          refine wpQuiet_nil ?_
          intro w1 hw1
          go_wp2
          go_roundw
          case rel => exact ⟨k + 1, by omega, by go_num, hB.trans (hw1.mono hB.size), Lib.hid (fun i hi => by by_cases h : i = k; (subst h; rw [HX.out, HY.out]; exact He.out); exact HE.out i (by omega))⟩
          case measure => simp [intOf]; omega
        · have He := Lib.hid he; clear he
          go_wp2
          refine wp_region_over (by kernel_rfl) (by kernel_rfl) ?_
          repeat (go_big_quiet_step ((go_at_call 98; exact calls_over (eqMove_is false x y _ (decide_eq_false He.out)))))
          refine wpQuiet_nil ?_
          intro w1 hw1
          go_wp2
          go_ret
          have : la ≠ lb := fun e => He.out (by rw [← HX.out, ← HY.out, e])
          exact ⟨by simp [this], hB.trans (hw1.mono hB.size)⟩
      · obtain rfl : k = n := by omega
        go_wp2
        go_ret
        have : la = lb := ext_getD default (by rw [← Hn.out, Hl.out]) (fun i hi => HE.out i (by rw [Hn.out]; exact hi))
        exact ⟨by simp [this], hB⟩
  · have hb := bne_len hlen
    have : la ≠ lb := fun e => hlen (by rw [e])
    have Ht := Lib.hid this; clear this
    go_enter Tryd.func81, Tryd.ntmps81
    go_wp2
    go_ret
    exact ⟨by simp [Ht.out], Below.refl _ _⟩

theorem eqMoveS_is (r : Bool) (va vb : Value) (la lb : List Move) (B B' : Nat) (w : World) (hr : decide (la = lb) = r) (ha : movesE.rd w B [va] la) (hb : movesE.rd w B' [vb] lb) :
    Calls Tryd.prog 81 #[va, vb] w (Gives (.bool r) w) := hr ▸ eqMoveS_any va vb la lb B B' w ha hb

set_option maxHeartbeats 400000 in
theorem szMoveS_any (v : Value) (l : List Move) (B : Nat) (w : World) (left : Int) (h : movesE.rd w B [v] l) (h0 : 0 ≤ left) (h1 : left ≤ 1048576) :
    Calls Tryd.prog 68 #[v, .int .i64 left] w (Gives (.int .i64 (lim l.length left)) w) := by
  have a1 := len_le h
  obtain ⟨a, n, cap, rfl⟩ := rd_slice h
  obtain ⟨n', cap', hv, -⟩ := h
  obtain rfl : n = l.length := by simp at hv; exact hv.2.1
  clear hv
  by_cases hlt : left < l.length
  · have hr := Lib.hid (lim_of_lt hlt)
    have ht : left - (l.length : Int) < 0 := by omega
    go_enter Tryd.func68, Tryd.ntmps68
    go_wp2
    go_ret
    exact ⟨by rw [hr.out]; rfl, Below.refl _ _⟩
  · have hr := Lib.hid (lim_of_ge hlt)
    have ht : ¬ left - (l.length : Int) < 0 := by omega
    go_enter Tryd.func68, Tryd.ntmps68
    go_wp2
    go_ret
    exact ⟨by rw [hr.out]; rfl, Below.refl _ _⟩

end Go.Proofs.YtnkhgfdlehhjmaaDoor

/-
  ValidTurner of the program: what it answers.
-/
namespace Go.Proofs.YtnkhgfdlehhjmaaDoor
open Go.RowKit

/-- A row of a turner's table is right: its length, and each of its moves. -/
def mrowOk (row : List Move) (n letters : Int) : Bool :=
  decide ((row.length : Int) = letters + 2) && (List.range row.length).all fun k => moveOk (row[k]?.getD default) n letters (k : Int)

def validTurn (p : Turner) : Bool :=
  within p.letters 1 3 && (within p.moves.length 1 12 && (within p.start 0 (p.moves.length - 1) && p.moves.all fun row => mrowOk row p.moves.length p.letters))

section
variable (cs : List Value) (p : Turner) (B : Nat) (w : World) (hB0 : B ≤ w.heap.size) (h : turnE.rd w B cs p)
include hB0 h

set_option maxHeartbeats 1000000 in
theorem validTurn_no1 (h1 : within p.letters 1 3 = false) : Calls Tryd.prog 45 #[.agg cs.toArray] w (Gives (.bool false) w) := by
  obtain ⟨v2, rfl, -, -, hh2⟩ := rd_Turner h
  obtain ⟨a, cap, rfl, a1, a2, -, a4⟩ := rd_slice1 rfl hh2
  obtain ⟨n, hn⟩ : ∃ n, n = p.moves.length := ⟨_, rfl⟩
  have HN : Hid (n = p.moves.length) := Lib.hid hn
  rw [← hn] at a1 a4 hh2 ⊢
  have H2 := Lib.hid hh2
  have T1 := Lib.hid h1
  clear h hh2 hn a4 h1
  go_enter Tryd.func45, Tryd.ntmps45
  go_wp2_with fail
  generalize hW : w.alloc _ = w0
  obtain ⟨A0, hB⟩ := blk1 hW
  clear hW
  refine (size_movess _ p.moves B _ (movessE.rd_of (hB.mono hB0) H2.out)).mono ?_
  rintro e w1 ⟨rfl, b⟩
  rw [← HN.out]
  have A0 := A0.of b A0.lt
  have c0 := A0.cell 0 rfl
  have c1 := A0.cell 1 rfl
  have c2 := A0.cell 2 rfl
  have HB := Lib.hid (hB.trans (b.mono hB.size))
  have HA := Lib.hid A0
  clear A0 hB b
  go_wp2_with fail
  refine (isAlphabet_is false _ _ T1.out).mono ?_
  rintro e w2 ⟨rfl, b⟩
  have HB := Lib.hid (HB.out.trans (b.mono HB.out.size))
  have HA := Lib.hid (HA.out.of b HA.out.lt)
  have c0 := HA.out.cell 0 rfl
  have c1 := HA.out.cell 1 rfl
  have c2 := HA.out.cell 2 rfl
  clear b
  go_wp2
  go_ret
  exact ⟨rfl, HB.out⟩

set_option maxHeartbeats 1000000 in
theorem validTurn_no2 (h1 : within p.letters 1 3 = true) (h2 : within p.moves.length 1 12 = false) : Calls Tryd.prog 45 #[.agg cs.toArray] w (Gives (.bool false) w) := by
  obtain ⟨v2, rfl, -, -, hh2⟩ := rd_Turner h
  obtain ⟨a, cap, rfl, a1, a2, -, a4⟩ := rd_slice1 rfl hh2
  obtain ⟨n, hn⟩ : ∃ n, n = p.moves.length := ⟨_, rfl⟩
  have HN : Hid (n = p.moves.length) := Lib.hid hn
  rw [← hn] at a1 a4 h2 hh2 ⊢
  have H2 := Lib.hid hh2
  have T1 := Lib.hid h1
  have T2 := Lib.hid h2
  clear h hh2 hn a4 h1 h2
  go_enter Tryd.func45, Tryd.ntmps45
  go_wp2_with fail
  generalize hW : w.alloc _ = w0
  obtain ⟨A0, hB⟩ := blk1 hW
  clear hW
  refine (size_movess _ p.moves B _ (movessE.rd_of (hB.mono hB0) H2.out)).mono ?_
  rintro e w1 ⟨rfl, b⟩
  rw [← HN.out]
  have A0 := A0.of b A0.lt
  have c0 := A0.cell 0 rfl
  have c1 := A0.cell 1 rfl
  have c2 := A0.cell 2 rfl
  have HB := Lib.hid (hB.trans (b.mono hB.size))
  have HA := Lib.hid A0
  clear A0 hB b
  go_wp2_with fail
  refine (isAlphabet_is true _ _ T1.out).mono ?_
  rintro e w2 ⟨rfl, b⟩
  have HB := Lib.hid (HB.out.trans (b.mono HB.out.size))
  have HA := Lib.hid (HA.out.of b HA.out.lt)
  have c0 := HA.out.cell 0 rfl
  have c1 := HA.out.cell 1 rfl
  have c2 := HA.out.cell 2 rfl
  clear b
  go_wp2_with fail
  refine (within_kis false _ _ _ _ T2.out).mono ?_
  rintro e w3 ⟨rfl, rfl⟩
  go_wp2
  go_ret
  exact ⟨rfl, HB.out⟩

set_option maxHeartbeats 1000000 in
theorem validTurn_no3 (h1 : within p.letters 1 3 = true) (h2 : within p.moves.length 1 12 = true) (h3 : within p.start 0 (p.moves.length - 1) = false) : Calls Tryd.prog 45 #[.agg cs.toArray] w (Gives (.bool false) w) := by
  obtain ⟨v2, rfl, -, -, hh2⟩ := rd_Turner h
  obtain ⟨a, cap, rfl, a1, a2, -, a4⟩ := rd_slice1 rfl hh2
  obtain ⟨n, hn⟩ : ∃ n, n = p.moves.length := ⟨_, rfl⟩
  have HN : Hid (n = p.moves.length) := Lib.hid hn
  rw [← hn] at a1 a4 h2 h3 hh2 ⊢
  have H2 := Lib.hid hh2
  have T1 := Lib.hid h1
  have T2 := Lib.hid h2
  have hn1 := (within_true.1 h2)
  have T3 := Lib.hid h3
  have hw : IntKind.i64.wrap ((n : Int) - 1) = (n : Int) - 1 := IntWalk.i64_in _ ⟨by omega, by omega⟩
  clear hn1
  clear h hh2 hn a4 h1 h2 h3
  go_enter Tryd.func45, Tryd.ntmps45
  go_wp2_with fail
  generalize hW : w.alloc _ = w0
  obtain ⟨A0, hB⟩ := blk1 hW
  clear hW
  refine (size_movess _ p.moves B _ (movessE.rd_of (hB.mono hB0) H2.out)).mono ?_
  rintro e w1 ⟨rfl, b⟩
  rw [← HN.out]
  have A0 := A0.of b A0.lt
  have c0 := A0.cell 0 rfl
  have c1 := A0.cell 1 rfl
  have c2 := A0.cell 2 rfl
  have HB := Lib.hid (hB.trans (b.mono hB.size))
  have HA := Lib.hid A0
  clear A0 hB b
  go_wp2_with fail
  refine (isAlphabet_is true _ _ T1.out).mono ?_
  rintro e w2 ⟨rfl, b⟩
  have HB := Lib.hid (HB.out.trans (b.mono HB.out.size))
  have HA := Lib.hid (HA.out.of b HA.out.lt)
  have c0 := HA.out.cell 0 rfl
  have c1 := HA.out.cell 1 rfl
  have c2 := HA.out.cell 2 rfl
  clear b
  go_wp2_with fail
  refine (within_kis true _ _ _ _ T2.out).mono ?_
  rintro e w3 ⟨rfl, rfl⟩
  go_wp2_with fail
  refine (within_kis false _ _ _ _ T3.out).mono ?_
  rintro e w4 ⟨rfl, rfl⟩
  go_wp2
  go_ret
  exact ⟨rfl, HB.out⟩

set_option maxHeartbeats 1000000 in
theorem validTurn_yes (h1 : within p.letters 1 3 = true) (h2 : within p.moves.length 1 12 = true) (h3 : within p.start 0 (p.moves.length - 1) = true) : Calls Tryd.prog 45 #[.agg cs.toArray] w (Gives (.bool (p.moves.all fun row => mrowOk row p.moves.length p.letters)) w) := by
  obtain ⟨v2, rfl, -, -, hh2⟩ := rd_Turner h
  obtain ⟨a, cap, rfl, a1, a2, -, a4⟩ := rd_slice1 rfl hh2
  obtain ⟨n, hn⟩ : ∃ n, n = p.moves.length := ⟨_, rfl⟩
  have HN : Hid (n = p.moves.length) := Lib.hid hn
  rw [← hn] at a1 a4 h2 h3 hh2 ⊢
  have H2 := Lib.hid hh2
  have T1 := Lib.hid h1
  have T2 := Lib.hid h2
  have hn1 := (within_true.1 h2)
  have T3 := Lib.hid h3
  have hw : IntKind.i64.wrap ((n : Int) - 1) = (n : Int) - 1 := IntWalk.i64_in _ ⟨by omega, by omega⟩
  have hl1 := within_true.1 h1
  have A4 := Lib.hid a4
  clear h hh2 hn a4 h1 h2 h3
  go_enter Tryd.func45, Tryd.ntmps45
  go_wp2_with fail
  generalize hW : w.alloc _ = w0
  obtain ⟨A0, hB⟩ := blk1 hW
  clear hW
  refine (size_movess _ p.moves B _ (movessE.rd_of (hB.mono hB0) H2.out)).mono ?_
  rintro e w1 ⟨rfl, b⟩
  rw [← HN.out]
  have A0 := A0.of b A0.lt
  have c0 := A0.cell 0 rfl
  have c1 := A0.cell 1 rfl
  have c2 := A0.cell 2 rfl
  have HB := Lib.hid (hB.trans (b.mono hB.size))
  have HA := Lib.hid A0
  clear A0 hB b
  go_wp2_with fail
  refine (isAlphabet_is true _ _ T1.out).mono ?_
  rintro e w2 ⟨rfl, b⟩
  have HB := Lib.hid (HB.out.trans (b.mono HB.out.size))
  have HA := Lib.hid (HA.out.of b HA.out.lt)
  have c0 := HA.out.cell 0 rfl
  have c1 := HA.out.cell 1 rfl
  have c2 := HA.out.cell 2 rfl
  clear b
  go_wp2_with fail
  refine (within_kis true _ _ _ _ T2.out).mono ?_
  rintro e w3 ⟨rfl, rfl⟩
  go_wp2_with fail
  refine (within_kis true _ _ _ _ T3.out).mono ?_
  rintro e w4 ⟨rfl, rfl⟩
  go_wp2
  clear c0 c1
  go_loopw [31] (fun i wr => ∃ k : Nat, k ≤ n ∧ i = .int .i64 k ∧ Below w.heap.size w wr ∧ Blk wr w.heap.size [.int .i64 p.letters, .int .i64 p.start, .slice a n cap] 32 ∧ Hid (∀ i, i < k → mrowOk (p.moves[i]?.getD default) n p.letters = true)) (fun i _ => n - (intOf i).toNat)
  case atStart => exact ⟨0, by omega, rfl, HB.out, HA.out, Lib.hid (fun i hi => absurd hi (by omega))⟩
  case round =>
    obtain ⟨k, hk, rfl, hB, hA, HE⟩ := hrel
    by_cases hlt : k < n
    case neg =>
      obtain rfl : k = n := by omega
      go_wp2
      go_ret
      have : (p.moves.all fun row => mrowOk row (k : Int) p.letters) = true := all_of_idx default _ _ (fun i hi => HE.out i (by rw [HN.out]; exact hi))
      exact ⟨by rw [this]; rfl, hB⟩
    obtain ⟨b, o, vk, rfl, -, hc, hr⟩ := A4.out k hlt
    have g1 := (hB.cell (World.block_lt_of_cell? w _ hc)).trans hc
    have R := Lib.hid (movesE.rd_of (hB.mono hB0) hr)
    have R0 := Lib.hid hr; clear hr hc
    obtain ⟨row, hrow⟩ : ∃ x, x = p.moves[k]?.getD default := ⟨_, rfl⟩
    rw [← hrow] at R R0
    have HROW := Lib.hid hrow; clear hrow
    obtain ⟨ra, rcap, rfl, r1, r2, -, r4⟩ := rd_movesE R0.out
    clear R0
    have R4 := Lib.hid r4; clear r4
    have c0 := hA.cell 0 rfl
    have hA' := Lib.hid hA; have la := hA.lt; clear hA
    have HBr := Lib.hid hB; clear hB
    have hwl1 : IntKind.i64.wrap (p.letters + 2) = p.letters + 2 := IntWalk.i64_in _ ⟨by omega, by omega⟩
    have hov := cell_over wr
    by_cases hlen : (row.length : Int) = p.letters + 2
    case neg =>
      have hb : ((row.length : Int) != p.letters + 2) = true := by simpa using hlen
      have hno := Lib.hid (show mrowOk row n p.letters = false by unfold mrowOk; rw [decide_eq_false hlen]; rfl)
      clear hlen
      go_wp2
      refine wp_region_over (by kernel_rfl) (by kernel_rfl) ?_
      repeat (go_big_quiet_step ((go_at_call 75; exact calls_over (size_moves _ row _ _ (movesE.rd_of ((below_over wr _).mono (Nat.le_trans hB0 HBr.out.size)) R.out)))))
      refine wpQuiet_nil ?_
      intro w5 hw5
      go_wp2
      go_ret
      have : (p.moves.all fun row => mrowOk row (n : Int) p.letters) = false := all_not_idx default _ _ k (by rw [← HN.out]; exact hlt) (by rw [← HROW.out]; exact hno.out)
      exact ⟨by rw [this]; rfl, HBr.out.trans (hw5.mono HBr.out.size)⟩
    have hb : ((row.length : Int) != p.letters + 2) = false := by simpa using hlen
    have Hlen := Lib.hid hlen; clear hlen
    go_wp2
    refine wp_region_over (by kernel_rfl) (by kernel_rfl) ?_
    repeat (go_big_quiet_step ((go_at_call 75; exact calls_over (size_moves _ row _ _ (movesE.rd_of ((below_over wr _).mono (Nat.le_trans hB0 HBr.out.size)) R.out)))))
    refine wpQuiet_nil ?_
    intro w5 hw5
    go_wp2
    have hA5 := Lib.hid (hA'.out.of hw5 la)
    have hB5 := Lib.hid (HBr.out.trans (hw5.mono HBr.out.size))
    clear hw5 hov c0 g1
    have hrl : row.length ≤ 5 := by have := Hlen.out; omega
    have hrl' : 2 ≤ row.length := by have := Hlen.out; omega
    obtain ⟨m, hm⟩ : ∃ m, m = row.length := ⟨_, rfl⟩
    rw [← hm] at hrl hrl' R4 ⊢
    have HM := Lib.hid hm; clear hm
    go_loopw [43] (fun i wr => ∃ c : Nat, c ≤ m ∧ i = .int .i64 c ∧ Below w.heap.size w wr ∧ Blk wr w.heap.size [.int .i64 p.letters, .int .i64 p.start, .slice (some ⟨b, o, none⟩) n cap] 32 ∧ Hid (∀ i, i < c → moveOk (row[i]?.getD default) n p.letters (i : Int) = true)) (fun i _ => m - (intOf i).toNat)
    case atStart => exact ⟨0, by omega, rfl, hB5.out, hA5.out, Lib.hid (fun i hi => absurd hi (by omega))⟩
    case round =>
      obtain ⟨c, hc, rfl, hB, hA, HC⟩ := hrel
      by_cases hcm : c < m
      case neg =>
        obtain rfl : c = m := by omega
        have hyes : Hid (mrowOk row n p.letters = true) := Lib.hid (by unfold mrowOk; rw [decide_eq_true Hlen.out, Bool.true_and]; exact range_all (fun i hi => HC.out i (by rw [HM.out]; exact hi)))
        go_wp2
        go_roundw
        case rel => exact ⟨k + 1, by omega, by go_num, hB, hA, Lib.hid (fun i hi => by by_cases h : i = k; (subst h; rw [← HROW.out]; exact hyes.out); exact HE.out i (by omega))⟩
        case measure => simp [intOf]; omega
      obtain ⟨s, t, rfl, -, ⟨hp0, hp1⟩, -⟩ := R4.out c hcm
      have l0 := World.block_lt_of_cell? w _ hp0
      have p0 := fun o => ((hB.alloc hB.size o).cell l0).trans hp0
      have q0 := (hB.cell l0).trans hp0
      have q1 := (hB.cell (World.block_lt_of_cell? w _ hp1)).trans hp1
      clear hp0 hp1 l0 p0
      have d0 := fun o => (hA.alloc o).cell 0 rfl
      have HA5 := Lib.hid hA; clear hA
      have HB5 := Lib.hid hB; clear hB
      generalize hmv : row[c]?.getD default = mv at *
      have HMV := Lib.hid hmv; clear hmv
      cases hok : moveOk mv n p.letters (c : Int)
      case false =>
        have HOK := Lib.hid hok; clear hok
        go_wp2_with fail
        refine (isMove_is false mv _ _ _ _ ⟨by omega, by omega⟩ ⟨by omega, by omega⟩ HOK.out).mono ?_
        rintro e w6 ⟨rfl, b6⟩
        have b6 := ((Below.refl _ wr).alloc (Nat.le_refl _) _).trans (b6.mono (by simp))
        have HB6 := Lib.hid (HB5.out.trans (b6.mono HB5.out.size))
        clear b6
        have hno : Hid (mrowOk row n p.letters = false) := Lib.hid (by unfold mrowOk; rw [decide_eq_true Hlen.out, Bool.true_and]; exact range_not (by rw [← HM.out]; exact hcm) (by rw [HMV.out]; exact HOK.out))
        go_wp2
        go_ret
        have : (p.moves.all fun row => mrowOk row (n : Int) p.letters) = false := all_not_idx default _ _ k (by rw [← HN.out]; exact hlt) (by rw [← HROW.out]; exact hno.out)
        exact ⟨by rw [this]; rfl, HB6.out⟩
      have HOK := Lib.hid hok; clear hok
      go_wp2_with fail
      refine (isMove_is true mv _ _ _ _ ⟨by omega, by omega⟩ ⟨by omega, by omega⟩ HOK.out).mono ?_
      rintro e w6 ⟨rfl, b6⟩
      have b6 := ((Below.refl _ wr).alloc (Nat.le_refl _) _).trans (b6.mono (by simp))
      have HB6 := Lib.hid (HB5.out.trans (b6.mono HB5.out.size))
      have HA6 := Lib.hid (HA5.out.of b6 HA5.out.lt)
      clear b6
      go_wp2
      go_roundw
      case rel => exact ⟨c + 1, by omega, by go_num, HB6.out, HA6.out, Lib.hid (fun i hi => by by_cases h : i = c; (subst h; rw [HMV.out]; exact HOK.out); exact HC.out i (by omega))⟩
      case measure => simp [intOf]; omega

end

theorem validTurn_any (cs : List Value) (p : Turner) (B : Nat) (w : World) (hB0 : B ≤ w.heap.size) (h : turnE.rd w B cs p) :
    Calls Tryd.prog 45 #[.agg cs.toArray] w (Gives (.bool (validTurn p)) w) := by
  unfold validTurn
  cases h1 : within p.letters 1 3 with
  | false => rw [Bool.false_and]; exact validTurn_no1 cs p B w hB0 h h1
  | true =>
    rw [Bool.true_and]
    cases h2 : within p.moves.length 1 12 with
    | false => rw [Bool.false_and]; exact validTurn_no2 cs p B w hB0 h h1 h2
    | true =>
      rw [Bool.true_and]
      cases h3 : within p.start 0 (p.moves.length - 1) with
      | false => rw [Bool.false_and]; exact validTurn_no3 cs p B w hB0 h h1 h2 h3
      | true => rw [Bool.true_and]; exact validTurn_yes cs p B w hB0 h h1 h2 h3

end Go.Proofs.YtnkhgfdlehhjmaaDoor

/-
  Contracts of slices.IndexFunc and slices.ContainsFunc at slices of slices (written by a program of this claim's own, gen_funcs.py).
-/
namespace Go.Proofs.YtnkhgfdlehhjmaaDoor
open Go.RowKit

set_option maxHeartbeats 400000 in
theorem indexFunc_strs (v : Value) (l : List (ByteArray)) (B : Nat) (w : World) (f : FuncId) (x y : Array Value) (p : ByteArray → Bool) (hB0 : B ≤ w.heap.size) (h : strsE.rd w B [v] l)
    (hcf : ∀ args w1, (callFunc f args).run Tryd.prog w1 = .ok (.enter f args) w1)
    (hf : ∀ vk z w1, Below w.heap.size w w1 → strE.rd w1 B [vk] z → Calls Tryd.prog f (x.push vk ++ y) w1 (Gives (.bool (p z)) w1)) :
    Calls Tryd.prog 77 #[v, .func (.func f) x y] w (Gives (.int .i64 (firstIdx p l)) w) := by
  obtain ⟨a, cap, rfl, h1, h2, -, h4⟩ := rd_slice1 rfl h
  obtain ⟨n, hn⟩ : ∃ n, n = l.length := ⟨_, rfl⟩
  rw [← hn] at h4 h1 ⊢
  have Hn := Lib.hid hn; clear hn h
  have H4 := Lib.hid h4; clear h4
  have Hf := Lib.hid hf; clear hf
  go_enter Tryd.func77, Tryd.ntmps77
  go_wp2
  go_loopw [4, 5, 8] (fun _ _ i wr => ∃ k : Nat, k ≤ n ∧ i = .int .i64 k ∧ Below w.heap.size w wr ∧ Hid (∀ i y, i < k → l[i]? = some y → p y = false)) (fun _ _ i _ => n - (intOf i).toNat)
  case atStart => exact ⟨0, by omega, rfl, Below.refl _ _, Lib.hid (fun i y hi => absurd hi (by omega))⟩
  case round =>
    obtain ⟨k, hk, rfl, hB, HE⟩ := hrel
    by_cases hlt : k < n
    · obtain ⟨b, o, vk, rfl, -, hc, hr⟩ := H4.out k hlt
      have c1 := (hB.cell (World.block_lt_of_cell? w _ hc)).trans hc
      have HR := Lib.hid (strE.rd_of (hB.mono hB0) hr)
      clear hc hr
      have hkl := get_some default (l := l) (k := k) (by rw [← Hn.out]; exact hlt)
      have HK := Lib.hid hkl; clear hkl
      generalize l[k]?.getD default = z at *
      go_wp2_with fail
      refine (Hf.out _ z _ hB HR.out).mono ?_
      rintro e w1 ⟨rfl, hbl⟩
      have B1 := Lib.hid (hB.trans (hbl.mono hB.size)); clear hB hbl
      by_cases hp : p z = true
      · go_wp2
        go_ret
        refine ⟨?_, B1.out⟩
        rw [firstIdx_at p l k _ HK.out hp HE.out]
        rfl
      · rw [Bool.not_eq_true] at hp
        go_wp2
        go_roundw
        case rel =>
          refine ⟨k + 1, by omega, by go_num, B1.out, Lib.hid (fun i y hi hy => ?_)⟩
          by_cases e : i = k
          · subst e
            rw [HK.out] at hy
            cases hy
            exact hp
          · exact HE.out i y (by omega) hy
        case measure => simp [intOf]; omega
    · obtain rfl : k = n := by omega
      go_wp2
      go_ret
      refine ⟨?_, hB⟩
      rw [firstIdx_none p l (fun x hx => ?_)]
      · rfl
      · obtain ⟨i, hi, rfl⟩ := List.getElem_of_mem hx
        exact HE.out i _ (by rw [Hn.out]; exact hi) (List.getElem?_eq_getElem hi)

set_option maxHeartbeats 400000 in
theorem containsFunc_strs (v : Value) (l : List (ByteArray)) (B : Nat) (w : World) (f : FuncId) (x y : Array Value) (p : ByteArray → Bool) (hB0 : B ≤ w.heap.size) (h : strsE.rd w B [v] l)
    (hcf : ∀ args w1, (callFunc f args).run Tryd.prog w1 = .ok (.enter f args) w1)
    (hf : ∀ vk z w1, Below w.heap.size w w1 → strE.rd w1 B [vk] z → Calls Tryd.prog f (x.push vk ++ y) w1 (Gives (.bool (p z)) w1)) :
    Calls Tryd.prog 46 #[v, .func (.func f) x y] w (Gives (.bool (l.any p)) w) := by
  obtain ⟨a, n, cap, rfl⟩ := rd_slice h
  have Hf := Lib.hid hf; clear hf
  have H := Lib.hid h; clear h
  have Hcf := Lib.hid hcf; clear hcf
  go_enter Tryd.func46, Tryd.ntmps46
  go_wp2_with fail
  refine (indexFunc_strs _ l B _ f x y p hB0 H.out Hcf.out Hf.out).mono ?_
  rintro e w1 ⟨rfl, hbl⟩
  have he := Lib.hid (firstIdx_any p l)
  generalize firstIdx p l = j at *
  go_wp2
  go_ret
  exact ⟨by rw [← he.out]; rfl, hbl⟩

end Go.Proofs.YtnkhgfdlehhjmaaDoor

/-
  Contracts of the laws' own helpers at one slice type (written by a program of this claim's own, gen_leaf.py).
-/
namespace Go.Proofs.YtnkhgfdlehhjmaaDoor
open Go.RowKit

set_option maxHeartbeats 400000 in
theorem eqMoveSS_any (va vb : Value) (la lb : List (List Move)) (B B' : Nat) (w : World) (hB1 : B ≤ w.heap.size) (hB2 : B' ≤ w.heap.size) (ha : movessE.rd w B [va] la) (hb : movessE.rd w B' [vb] lb) :
    Calls Tryd.prog 53 #[va, vb] w (Gives (.bool (decide (la = lb))) w) := by
  obtain ⟨a, ca, rfl, a1, a2, -, a4⟩ := rd_slice1 rfl ha
  obtain ⟨b, cb, rfl, b1, b2, -, b4⟩ := rd_slice1 rfl hb
  clear ha hb
  have H4 := Lib.hid a4; clear a4
  have K4 := Lib.hid b4; clear b4
  by_cases hlen : la.length = lb.length
  · obtain ⟨n, hn⟩ : ∃ n, n = la.length := ⟨_, rfl⟩
    rw [← hn] at hlen H4 a1 ⊢
    rw [← hlen] at K4 b1 ⊢
    have Hn := Lib.hid hn; clear hn
    have Hl := Lib.hid hlen; clear hlen
    go_enter Tryd.func53, Tryd.ntmps53
    go_wp2
    go_loopw [5] (fun i wr => ∃ k : Nat, k ≤ n ∧ i = .int .i64 k ∧ Below w.heap.size w wr ∧ Hid (∀ i, i < k → la[i]?.getD [] = lb[i]?.getD [])) (fun i _ => n - (intOf i).toNat)
    case atStart => exact ⟨0, by omega, rfl, Below.refl _ _, Lib.hid (fun i hi => absurd hi (by omega))⟩
    case round =>
      obtain ⟨k, hk, rfl, hB, HE⟩ := hrel
      by_cases hlt : k < n
      · obtain ⟨p, o, v1, rfl, -, hc, hr1⟩ := H4.out k hlt
        obtain ⟨p', o', v2, rfl, -, hc', hr2⟩ := K4.out k hlt
        have g1 := World.block_lt_of_cell? w _ hc
        have g2 := World.block_lt_of_cell? w _ hc'
        have c1 := (hB.cell g1).trans hc
        have c2 := (hB.cell g2).trans hc'
        have g1 : p < wr.heap.size := Nat.lt_of_lt_of_le g1 hB.size
        have g2 : p' < wr.heap.size := Nat.lt_of_lt_of_le g2 hB.size
        have hov := cell_over wr
        have r1 := movesE.rd_of (hB.mono hB1) hr1
        have r2 := movesE.rd_of (hB.mono hB2) hr2
        have q1 : B ≤ wr.heap.size := Nat.le_trans hB1 hB.size
        have q2 : B' ≤ wr.heap.size := Nat.le_trans hB2 hB.size
        have R1 := Lib.hid r1; clear r1 hr1
        have R2 := Lib.hid r2; clear r2 hr2
        clear hc hc'
        by_cases he : la[k]?.getD [] = lb[k]?.getD []
        · have He := Lib.hid he; clear he
          go_wp2
          refine wp_region_over (by kernel_rfl) (by kernel_rfl) ?_
          repeat (go_big_quiet_step ((go_at_call 81; exact calls_over (eqMoveS_is true _ _ _ _ _ _ _ (decide_eq_true He.out) (movesE.rd_of ((below_over wr _).mono q1) R1.out) (movesE.rd_of ((below_over wr _).mono q2) R2.out)))))
          refine wpQuiet_nil ?_
          intro w1 hw1
          go_wp2
          go_roundw
          case rel => exact ⟨k + 1, by omega, by go_num, hB.trans (hw1.mono hB.size), Lib.hid (fun i hi => by by_cases h : i = k; (subst h; exact He.out); exact HE.out i (by omega))⟩
          case measure => simp [intOf]; omega
        · have He := Lib.hid he; clear he
          go_wp2
          refine wp_region_over (by kernel_rfl) (by kernel_rfl) ?_
          repeat (go_big_quiet_step ((go_at_call 81; exact calls_over (eqMoveS_is false _ _ _ _ _ _ _ (decide_eq_false He.out) (movesE.rd_of ((below_over wr _).mono q1) R1.out) (movesE.rd_of ((below_over wr _).mono q2) R2.out)))))
          refine wpQuiet_nil ?_
          intro w1 hw1
          go_wp2
          go_ret
          have : la ≠ lb := fun e => He.out (by rw [e])
          exact ⟨by simp [this], hB.trans (hw1.mono hB.size)⟩
      · obtain rfl : k = n := by omega
        go_wp2
        go_ret
        have : la = lb := ext_getD [] (by rw [← Hn.out, Hl.out]) (fun i hi => HE.out i (by rw [Hn.out]; exact hi))
        exact ⟨by simp [this], hB⟩
  · have hb := bne_len hlen
    have : la ≠ lb := fun e => hlen (by rw [e])
    have Ht := Lib.hid this; clear this
    go_enter Tryd.func53, Tryd.ntmps53
    go_wp2
    go_ret
    exact ⟨by simp [Ht.out], Below.refl _ _⟩

theorem eqMoveSS_is (r : Bool) (va vb : Value) (la lb : List (List Move)) (B B' : Nat) (w : World) (hB1 : B ≤ w.heap.size) (hB2 : B' ≤ w.heap.size) (hr : decide (la = lb) = r) (ha : movessE.rd w B [va] la) (hb : movessE.rd w B' [vb] lb) :
    Calls Tryd.prog 53 #[va, vb] w (Gives (.bool r) w) := hr ▸ eqMoveSS_any va vb la lb B B' w hB1 hB2 ha hb

theorem info_MoveSS : (Tryd.prog.info? 66).map (fun i => (i.zero, i.size, i.bytes)) = some (some (.slice none 0 0), 1, 24) := by kernel_rfl

set_option maxHeartbeats 400000 in
theorem toMoveSS_any (v : Value) (l : List (List Move)) (B : Nat) (w : World) (hB0 : B ≤ w.heap.size) (h : movessE.rd w B [v] l) (hl : l.length ≤ 1048576) (hm : ∀ x, x ∈ l → x.length ≤ 1048576) :
    Calls Tryd.prog 43 #[v] w (Makes movessE id l w) := by
  obtain ⟨a, cap, rfl, h1, h2, h3, h4⟩ := rd_slice1 rfl h
  obtain ⟨i0, hi, hz0, hz1, hz2⟩ := info_parts info_MoveSS
  obtain ⟨n, hn⟩ : ∃ n, n = l.length := ⟨_, rfl⟩
  rw [← hn] at hl h4 h1 ⊢
  have hmk := make_run (P := Tryd.prog) Tryd.underlying30 hi hz0 hz1 n (by rw [hz2]; omega) (by omega)
  have hmo := made_owns (w := w) (ty := 66) (.slice none 0 0) n (by simp [maxLen]; omega)
  have Hn := Lib.hid hn; clear hn h
  have Hm := Lib.hid hm; clear hm
  have H4 := Lib.hid h4; clear h4
  have Hmo := Lib.hid hmo; clear hmo
  clear hi hz0 hz1 hz2
  go_enter Tryd.func43, Tryd.ntmps43
  go_wp2
  simp only [Value.cells] at *
  have hb0 : Below w.heap.size w (w.alloc (Obj.cells (madeCells #[Value.slice none 0 0] n) 66)) := (Below.refl _ _).alloc (Nat.le_refl _) _
  have HB0 := Lib.hid hb0; clear hb0
  generalize w.alloc (Obj.cells (madeCells #[Value.slice none 0 0] n) 66) = w1 at *
  obtain ⟨g, hg⟩ : ∃ g, g = w.heap.size := ⟨_, rfl⟩
  rw [← hg] at Hmo HB0 ⊢
  have Hg := Lib.hid hg; clear hg hmk
  go_loopw [4] (fun i wr => ∃ k : Nat, k ≤ n ∧ i = .int .i64 k ∧ Spine movesE 66 g n (.slice none 0 0) l k w wr) (fun i _ => n - (intOf i).toNat)
  case atStart => exact ⟨0, by omega, rfl, Spine.start Hmo.out HB0.out⟩
  case round =>
    obtain ⟨k, hk, rfl, hS⟩ := hrel
    have hB := hS.below
    by_cases hlt : k < n
    · obtain ⟨b, o, vk, rfl, hb, hc, hr⟩ := H4.out k hlt
      have hb' := World.block_lt_of_cell? w _ hc
      have c1 : wr.cell? ⟨b, o + k, none⟩ = some vk := by rw [hB.cell (by rw [Hg.out]; exact hb')]; exact hc
      have hkl : k < l.length := by rw [← Hn.out]; exact hlt
      have hr1 := movesE.rd_of (hB.mono (by rw [Hg.out]; exact hB0)) hr
      have hlm : (l[k]?.getD default).length ≤ 1048576 := Hm.out _ (by simp [List.getElem?_eq_getElem hkl])
      have hlk : l[k]? = some (l[k]?.getD default) := by simp [List.getElem?_eq_getElem hkl]
      have HLK := Lib.hid hlk; clear hlk
      have HR := Lib.hid hr1; clear hr1 hr hc hb hb'
      have HL := Lib.hid hlm; clear hlm
      go_wp2_with fail
      refine (toMoveS_any _ _ _ _ (Nat.le_trans hB0 hB.size) HR.out HL.out).mono ?_
      rintro e w1 ⟨v', fp, rfl, ho, hnd, hge, hbl⟩
      obtain ⟨a', n', cp', rfl⟩ := ow_slice ho
      obtain ⟨c2, c3⟩ := hS.cell hlt hbl
      have HS := Lib.hid (hS.step hlt hbl HLK.out ho hnd hge)
      clear hS ho hnd hge hB hbl
      go_wp2
      go_roundw
      case rel => exact ⟨k + 1, by omega, by go_num, HS.out⟩
      case measure => simp [intOf]; omega
    · obtain rfl : k = n := by omega
      go_wp2
      go_ret
      exact hS.done rfl Hn.out Hg.out

set_option maxHeartbeats 400000 in
theorem szMoveSS_any (v : Value) (l : List (List Move)) (B : Nat) (w : World) (left : Int) (hB0 : B ≤ w.heap.size) (h : movessE.rd w B [v] l) (h0 : 0 ≤ left) (h1 : left ≤ 1048576) :
    Calls Tryd.prog 37 #[v, .int .i64 left] w (Gives (.int .i64 (lim (l.length + sumLen l) left)) w) := by
  obtain ⟨a, cap, rfl, a1, a2, -, h4⟩ := rd_slice1 rfl h
  clear h
  obtain ⟨n, hn⟩ : ∃ n, n = l.length := ⟨_, rfl⟩
  rw [← hn] at h4 a1 ⊢
  have Hn := Lib.hid hn; clear hn
  have H4 := Lib.hid h4; clear h4
  by_cases hlt : left < n
  · have hr := Lib.hid (lim_of_lt (t := n + sumLen l) (left := left) (by omega))
    have ht : left - (n : Int) < 0 := by omega
    go_enter Tryd.func37, Tryd.ntmps37
    go_wp2
    go_ret
    exact ⟨by rw [hr.out]; rfl, Below.refl _ _⟩
  · have ht : ¬ left - (n : Int) < 0 := by omega
    go_enter Tryd.func37, Tryd.ntmps37
    go_wp2
    go_loopw [1, 5] (fun r i wr => ∃ k : Nat, ∃ q : Int, k ≤ n ∧ i = .int .i64 k ∧ Below w.heap.size w wr ∧ r = .int .i64 q ∧ 0 ≤ q ∧ q ≤ 1048576 ∧ Hid (q = left - n - sumLen (l.take k))) (fun _ i _ => n - (intOf i).toNat)
    case atStart => exact ⟨0, left - n, by omega, rfl, Below.refl _ _, rfl, by omega, by omega, Lib.hid (by simp [sumLen])⟩
    case round =>
      obtain ⟨k, q, hk, rfl, hB, rfl, q0, q1, HQ⟩ := hrel
      by_cases hkn : k < n
      · obtain ⟨b, o, vk, rfl, -, hc, hr⟩ := H4.out k hkn
        have c1 := (hB.cell (World.block_lt_of_cell? w _ hc)).trans hc
        have HR := Lib.hid (movesE.rd_of (hB.mono hB0) hr)
        have HK := Lib.hid (get_some default (l := l) (k := k) (by rw [← Hn.out]; exact hkn))
        clear hc hr
        generalize l[k]?.getD default = x at *
        go_wp2_with fail
        refine (szMoveS_any _ x _ _ _ HR.out q0 q1).mono ?_
        rintro e w1 ⟨rfl, hbl⟩
        have B1 := Lib.hid (hB.trans (hbl.mono hB.size)); clear hB hbl
        have HT := Lib.hid (sumLen_take l k x HK.out)
        have HM := Lib.hid (sumLen_le l (k + 1))
        by_cases hx : q < x.length
        · rw [lim_of_lt hx]
          have hr := Lib.hid (lim_of_lt (t := n + sumLen l) (left := left) (by have := HQ.out; have := HT.out; have := HM.out; omega))
          go_wp2
          go_ret
          exact ⟨by rw [hr.out]; rfl, B1.out⟩
        · rw [lim_of_ge hx]
          have ht : ¬ q - (x.length : Int) < 0 := by omega
          go_wp2
          go_roundw
          case rel => exact ⟨k + 1, q - x.length, by omega, by go_num, B1.out, rfl, by omega, by omega, Lib.hid (by have := HQ.out; have := HT.out; omega)⟩
          case measure => simp [intOf]; omega
      · obtain rfl : k = n := by omega
        have hq : q = lim (k + sumLen l) left := by
          have h1 := HQ.out
          rw [Hn.out, List.take_length] at h1
          rw [lim_of_ge (by rw [Hn.out]; omega)]
          rw [Hn.out]
          omega
        have HQ2 := Lib.hid hq; clear hq
        go_wp2
        go_ret
        exact ⟨by rw [← HQ2.out]; rfl, hB⟩

end Go.Proofs.YtnkhgfdlehhjmaaDoor

/-
  The contracts of the laws' own toTurner and szTurner (written by a program of this claim's own, gen_structs.py).
-/
namespace Go.Proofs.YtnkhgfdlehhjmaaDoor
open Go.RowKit

/-- No list of it is longer than the laws let by. -/
def okTurner (r : Turner) : Prop := r.moves.length ≤ 1048576 ∧ (∀ x, x ∈ r.moves → x.length ≤ 1048576)

/-- How much of it the laws count. -/
def totTurner (r : Turner) : Nat := (r.moves.length + sumLen r.moves)

theorem ok_of_totTurner {r : Turner} (h : ¬ 1048576 < totTurner r) : okTurner r := by
  unfold totTurner at h
  exact ⟨by omega, fun x hx => by have := sumLen_mem _ _ hx; omega⟩

set_option maxHeartbeats 1000000 in
theorem toTurner_any (cs : List Value) (r : Turner) (B : Nat) (w : World) (hB0 : B ≤ w.heap.size) (h : turnE.rd w B cs r) (hok : okTurner r) :
    Calls Tryd.prog 18 #[.agg cs.toArray] w (MakesS turnE id r w) := by
  obtain ⟨v2, rfl, b0, b1, h2⟩ := rd_Turner h
  obtain ⟨n2a, n2b⟩ := hok
  have N2A := Lib.hid n2a; clear n2a
  have N2B := Lib.hid n2b; clear n2b
  obtain ⟨s2, l2, c2, rfl⟩ := rd_slice h2
  have H2 := Lib.hid h2; clear h2
  clear h
  go_enter Tryd.func18, Tryd.ntmps18
  go_wp2_with fail
  generalize hW : (((w.alloc _).alloc _).alloc _ : World) = w3
  obtain ⟨A0, A1, A2, hB⟩ := blk3 hW
  clear hW
  obtain ⟨g, hg⟩ : ∃ g, g = w.heap.size := ⟨_, rfl⟩
  rw [← hg] at hB A0 A1 A2 hB0 ⊢
  have Hg := Lib.hid hg; clear hg
  have S2 := A2.lt
  refine (toMoveSS_any _ _ g _ (by omega) (movessE.rd_of hB (movessE.rd_mono hB0 H2.out)) N2A.out N2B.out).mono ?_
  rintro e x2 ⟨v2, f2, rfl, o2, d2, hge, hbl⟩
  obtain ⟨t2, u2, y2, rfl⟩ := ow_slice o2
  have G2 := Lib.hid (fun b (hb : b ∈ f2) => (show g + 1 + 1 < b from by have := hge b hb; omega))
  have D2 := Lib.hid d2; clear d2
  have O2 := Lib.hid o2; clear o2
  have B1 := hB.trans (hbl.mono (by omega))
  have A0 := A0.of hbl A0.lt
  have A1 := A1.of hbl A1.lt
  have A2 := A2.of hbl A2.lt
  clear hB hge hbl
  have p0 := A2.free 2
  have p1 := A2.cell 2 rfl
  have q0 := A2.cell 0 rfl
  have r0 := A1.free 0
  have r0c := A1.cell 0 rfl
  have q1 := A2.cell 1 rfl
  have r1 := A1.free 1
  have r1c := A1.cell 1 rfl
  have r2 := A1.free 2
  have r2c := A1.cell 2 rfl
  have HA1 := Lib.hid A1; clear A1
  have HB1 := Lib.hid B1; clear B1
  have S2 := A2.lt
  clear A0 A2
  go_wp2_with fail
  have A1 := ((((HA1.out.other (a := ⟨g + 1 + 1, 2, none⟩) (by simp) (.slice t2 u2 y2)).set 0 (.int .i64 r.letters)).set 1 (.int .i64 r.start)).set 2 (.slice t2 u2 y2))
  have hbut := (((((But.refl [g + 1, g + 1 + 1] x2).setCell (a := ⟨g + 1 + 1, 2, none⟩) (by simp) (.slice t2 u2 y2)).setCell (a := ⟨g + 1, 0, none⟩) (by simp) (.int .i64 r.letters)).setCell (a := ⟨g + 1, 1, none⟩) (by simp) (.int .i64 r.start)).setCell (a := ⟨g + 1, 2, none⟩) (by simp) (.slice t2 u2 y2))
  generalize (((x2.setCell ⟨g + 1 + 1, 2, none⟩ (.slice t2 u2 y2)).setCell ⟨g + 1, 0, none⟩ (.int .i64 r.letters)).setCell ⟨g + 1, 1, none⟩ (.int .i64 r.start)).setCell ⟨g + 1, 2, none⟩ (.slice t2 u2 y2) = wf at *
  have a0 := A1.cell 0 rfl
  have a1 := A1.cell 1 rfl
  have a2 := A1.cell 2 rfl
  refine bodyPost_ret (v := .agg #[.int .i64 r.letters, .int .i64 r.start, .slice t2 u2 y2]) ?_ rfl ?_
  · simp [results, Tryd.results18, go_sem, a0, a1, a2]
  · have o2 := movessE.ow_but O2.out hbut (fun b hb => by have := G2.out b hb; simp; omega)
    refine ⟨_, _, rfl, ow_Turner b0 b1 o2, D2.out, ?_, ?_⟩
    · intro b hb
      rw [← Hg.out]
      have := G2.out b hb; omega
    · rw [← Hg.out]
      exact HB1.out.trans (hbut.below (by intro b hb; simp at hb; omega) (by omega))

set_option maxHeartbeats 400000 in
theorem szTurner_any (cs : List Value) (r : Turner) (B : Nat) (w : World) (left : Int) (hB0 : B ≤ w.heap.size) (h : turnE.rd w B cs r) (h0 : 0 ≤ left) (h1 : left ≤ 1048576) :
    Calls Tryd.prog 14 #[.agg cs.toArray, .int .i64 left] w (Gives (.int .i64 (lim (totTurner r) left)) w) := by
  obtain ⟨v2, rfl, -, -, h2⟩ := rd_Turner h
  obtain ⟨s2, l2, c2, rfl⟩ := rd_slice h2
  have H2 := Lib.hid h2; clear h2
  have HT : Hid (totTurner r = (r.moves.length + sumLen r.moves)) := Lib.hid rfl
  clear h
  go_enter Tryd.func14, Tryd.ntmps14
  go_wp2_with fail
  generalize hW : w.alloc _ = w1
  obtain ⟨A0, hB⟩ := blk1 hW
  clear hW
  refine (szMoveSS_any _ r.moves w.heap.size _ _ hB.size (movessE.rd_of hB (movessE.rd_mono hB0 H2.out)) h0 h1).mono ?_
  rintro e x2 ⟨rfl, hbl⟩
  have B1 := hB.trans (hbl.mono hB.size)
  have A1 := A0.of hbl A0.lt
  clear hbl hB A0
  obtain ⟨z2, hz⟩ : ∃ z : Nat, z = r.moves.length + sumLen r.moves := ⟨_, rfl⟩
  rw [← hz]
  have HZ2 := Lib.hid hz; clear hz
  by_cases hx : left < (z2 : Nat)
  · rw [lim_of_lt hx]
    have hr := Lib.hid (lim_of_lt (t := totTurner r) (left := left) (by have := HT.out; have := HZ2.out; omega))
    go_wp2
    go_ret
    exact ⟨by rw [hr.out]; rfl, B1⟩
  rw [lim_of_ge hx]
  have hr : Hid (lim (totTurner r) left = left - (z2 : Nat)) := Lib.hid (by have := HT.out; have := HZ2.out; rw [lim_of_ge (by omega)]; omega)
  have ht : ¬ left - (z2 : Int) < 0 := by omega
  go_wp2
  go_ret
  exact ⟨by rw [hr.out]; rfl, B1⟩

end Go.Proofs.YtnkhgfdlehhjmaaDoor

/-
  Contracts of the laws' own helpers at one slice type (written by a program of this claim's own, gen_leaf.py).
-/
namespace Go.Proofs.YtnkhgfdlehhjmaaDoor
open Go.RowKit

def sumF {α : Type} (f : α → Nat) (l : List α) : Nat := (l.map f).sum
theorem sumF_take {α : Type} (f : α → Nat) (l : List α) (k : Nat) (x : α) (h : l[k]? = some x) : sumF f (l.take (k + 1)) = sumF f (l.take k) + f x := by
  obtain ⟨hk, rfl⟩ := List.getElem?_eq_some_iff.1 h
  rw [List.take_succ_eq_append_getElem hk]
  unfold sumF
  rw [List.map_append, List.sum_append, List.map_cons, List.map_nil, List.sum_cons, List.sum_nil, Nat.add_zero]
theorem sumF_le {α : Type} (f : α → Nat) (l : List α) (k : Nat) : sumF f (l.take k) ≤ sumF f l := by
  conv => rhs; rw [← List.take_append_drop k l]
  simp only [sumF, List.map_append, List.sum_append]
  omega
theorem strs_ne {x y : ByteArray} (h : ¬ x = y) : (x.toList == y.toList) = false := by
  rw [beq_eq_false_iff_ne]
  intro e
  apply h
  rw [ByteArray.toList_eq, ByteArray.toList_eq] at e
  obtain ⟨a⟩ := x
  obtain ⟨b⟩ := y
  have : a = b := Array.toList_inj.1 e
  rw [this]
def strSz (l : List ByteArray) : Nat := l.length + sumF ByteArray.size l
def strsSz (l : List (List ByteArray)) : Nat := l.length + sumF strSz l

theorem info_StringS : (Tryd.prog.info? 9).map (fun i => (i.zero, i.size, i.bytes)) = some (some (.string ByteArray.empty), 1, 16) := by kernel_rfl

set_option maxHeartbeats 400000 in
theorem toStringS_any (v : Value) (l : List ByteArray) (B : Nat) (w : World) (h : strsE.rd w B [v] l) (hl : l.length ≤ 1048576) :
    Calls Tryd.prog 44 #[v] w (Makes strsE id l w) := by
  obtain ⟨a, cap, rfl, h1, h2, h3, h4⟩ := rd_strs h
  obtain ⟨i0, hi, hz0, hz1, hz2⟩ := info_parts info_StringS
  obtain ⟨n, hn⟩ : ∃ n, n = l.length := ⟨_, rfl⟩
  rw [← hn] at hl h4 h1 ⊢
  have hmk := make_run (P := Tryd.prog) Tryd.underlying47 hi hz0 hz1 n (by rw [hz2]; omega) (by omega)
  have hmo := made_owns (w := w) (ty := 9) (.string ByteArray.empty) n (by simp [maxLen]; omega)
  have Hn := Lib.hid hn; clear hn h
  have H4 := Lib.hid h4; clear h4
  have Hmo := Lib.hid hmo; clear hmo
  clear hi hz0 hz1 hz2
  go_enter Tryd.func44, Tryd.ntmps44
  go_wp2
  simp only [Value.cells] at *
  have hb0 : Below w.heap.size w (w.alloc (Obj.cells (madeCells #[.string ByteArray.empty] n) 9)) := (Below.refl _ _).alloc (Nat.le_refl _) _
  have HB0 := Lib.hid hb0; clear hb0
  generalize w.alloc (Obj.cells (madeCells #[.string ByteArray.empty] n) 9) = w1 at *
  obtain ⟨g, hg⟩ : ∃ g, g = w.heap.size := ⟨_, rfl⟩
  rw [← hg] at Hmo HB0 ⊢
  have Hg := Lib.hid hg; clear hg hmk
  go_loopw [4] (fun i wr => ∃ k : Nat, k ≤ n ∧ i = .int .i64 k ∧ Below g w wr ∧ wr.ownsRow g 9 1 (.slice (some ⟨g, 0, none⟩) n n) n (((l.take k).map (Value.string)) ++ List.replicate (n - k) (.string ByteArray.empty))) (fun i _ => n - (intOf i).toNat)
  case atStart => exact ⟨0, by omega, rfl, HB0.out, by simpa using Hmo.out⟩
  case round =>
    obtain ⟨k, hk, rfl, hB, hO⟩ := hrel
    by_cases hlt : k < n
    · obtain ⟨b, o, rfl, hb, hc, hsz⟩ := H4.out k hlt
      have hb' := World.block_lt_of_cell? w _ hc
      have c1 : wr.cell? ⟨b, o + k, none⟩ = some (Value.string (l[k]?.getD ByteArray.empty)) := by rw [hB.cell (by rw [Hg.out]; exact hb')]; exact hc
      have c2 := hO.cellAt k (by omega)
      have c2' : wr.cell? ⟨g, k, none⟩ = some (.string ByteArray.empty) := by
        have hlen : ((l.take k).map (Value.string)).length = k := by have := Hn.out; simp; omega
        rw [c2, List.getElem?_append_right (by rw [hlen]; exact Nat.le_refl _), hlen, Nat.sub_self, List.getElem?_replicate, if_pos (by omega)]
      have c3 := hO.frozenAt k
      have HS := Lib.hid (hO.stored k (Value.string (l[k]?.getD ByteArray.empty)))
      clear c2 hO hc hb hb'
      have HX := Lib.hid (take_succ_map ByteArray.empty (Value.string) l k n (.string ByteArray.empty) Hn.out.symm hlt)
      generalize l[k]?.getD ByteArray.empty = x at *
      go_wp2
      go_roundw
      case rel => exact ⟨k + 1, by omega, by go_num, hB.setCell (Nat.le_refl _) _, by rw [← HX.out]; exact HS.out.1⟩
      case measure => simp [intOf]; omega
    · obtain rfl : k = n := by omega
      go_wp2
      go_ret
      have hl2 : l.take k = l := by rw [Hn.out, List.take_length]
      rw [hl2, Nat.sub_self, List.replicate_zero, List.append_nil] at hO
      refine makes_flat (g := g) (Value.string) rfl (fun x hx => ?_) (by rw [← Hn.out]; exact hO) hB Hg.out
      obtain ⟨i, hi, rfl⟩ := List.getElem_of_mem hx
      obtain ⟨b, o, _, _, _, h5⟩ := H4.out i (by rw [Hn.out]; exact hi)
      exact ⟨⟨rfl, by simp [List.getElem?_eq_getElem hi] at h5; simpa [maxLen] using h5⟩, rfl⟩

set_option maxHeartbeats 400000 in
theorem eqStringS_any (va vb : Value) (la lb : List ByteArray) (B B' : Nat) (w : World) (ha : strsE.rd w B [va] la) (hb : strsE.rd w B' [vb] lb) :
    Calls Tryd.prog 54 #[va, vb] w (Gives (.bool (decide (la = lb))) w) := by
  obtain ⟨a, ca, rfl, a1, a2, _, a4⟩ := rd_strs ha
  obtain ⟨b, cb, rfl, b1, b2, _, b4⟩ := rd_strs hb
  clear ha hb
  have H4 := Lib.hid a4; clear a4
  have K4 := Lib.hid b4; clear b4
  by_cases hlen : la.length = lb.length
  · obtain ⟨n, hn⟩ : ∃ n, n = la.length := ⟨_, rfl⟩
    rw [← hn] at hlen H4 a1 ⊢
    rw [← hlen] at K4 b1 ⊢
    have Hn := Lib.hid hn; clear hn
    have Hl := Lib.hid hlen; clear hlen
    go_enter Tryd.func54, Tryd.ntmps54
    go_wp2
    go_loopw [5] (fun i wr => ∃ k : Nat, k ≤ n ∧ i = .int .i64 k ∧ Below w.heap.size w wr ∧ Hid (∀ i, i < k → la[i]?.getD ByteArray.empty = lb[i]?.getD ByteArray.empty)) (fun i _ => n - (intOf i).toNat)
    case atStart => exact ⟨0, by omega, rfl, Below.refl _ _, Lib.hid (fun i hi => absurd hi (by omega))⟩
    case round =>
      obtain ⟨k, hk, rfl, hB, HE⟩ := hrel
      by_cases hlt : k < n
      · obtain ⟨p, o, rfl, _, hc, -⟩ := H4.out k hlt
        obtain ⟨p', o', rfl, _, hc', -⟩ := K4.out k hlt
        have c1 := (hB.cell (World.block_lt_of_cell? w _ hc)).trans hc
        have c2 := (hB.cell (World.block_lt_of_cell? w _ hc')).trans hc'
        clear hc hc'
        generalize hx : la[k]?.getD ByteArray.empty = x at *
        generalize hy : lb[k]?.getD ByteArray.empty = y at *
        have HX := Lib.hid hx; have HY := Lib.hid hy; clear hx hy
        by_cases he : x = y
        · have heb : (x.toList == y.toList) = true := by rw [he]; simp
          have He := Lib.hid he; clear he
          go_wp2
          go_quiet (fail)
          go_wp2
          go_roundw
          case rel => exact ⟨k + 1, by omega, by go_num, below_drewN hB _, Lib.hid (fun i hi => by by_cases h : i = k; (subst h; rw [HX.out, HY.out]; exact He.out); exact HE.out i (by omega))⟩
          case measure => simp [intOf]; omega
        · have heb : (x.toList == y.toList) = false := strs_ne he
          have He := Lib.hid he; clear he
          go_wp2
          go_quiet (fail)
          go_wp2
          go_ret
          have : la ≠ lb := fun e => He.out (by rw [← HX.out, ← HY.out, e])
          exact ⟨by simp [this], below_drewN hB _⟩
      · obtain rfl : k = n := by omega
        go_wp2
        go_ret
        have : la = lb := ext_getD ByteArray.empty (by rw [← Hn.out, Hl.out]) (fun i hi => HE.out i (by rw [Hn.out]; exact hi))
        exact ⟨by simp [this], hB⟩
  · have hb := bne_len hlen
    have : la ≠ lb := fun e => hlen (by rw [e])
    have Ht := Lib.hid this; clear this
    go_enter Tryd.func54, Tryd.ntmps54
    go_wp2
    go_ret
    exact ⟨by simp [Ht.out], Below.refl _ _⟩

theorem eqStringS_is (r : Bool) (va vb : Value) (la lb : List ByteArray) (B B' : Nat) (w : World) (hr : decide (la = lb) = r) (ha : strsE.rd w B [va] la) (hb : strsE.rd w B' [vb] lb) :
    Calls Tryd.prog 54 #[va, vb] w (Gives (.bool r) w) := hr ▸ eqStringS_any va vb la lb B B' w ha hb

set_option maxHeartbeats 400000 in
theorem szStringS_raw (v : Value) (l : List (ByteArray)) (B : Nat) (w : World) (left : Int) (h : strsE.rd w B [v] l) (h0 : 0 ≤ left) (h1 : left ≤ 1048576) :
    Calls Tryd.prog 38 #[v, .int .i64 left] w (Gives (.int .i64 (lim (l.length + sumF ByteArray.size l) left)) w) := by
  obtain ⟨a, cap, rfl, a1, a2, -, h4⟩ := rd_slice1 rfl h
  clear h
  obtain ⟨n, hn⟩ : ∃ n, n = l.length := ⟨_, rfl⟩
  rw [← hn] at h4 a1 ⊢
  have Hn := Lib.hid hn; clear hn
  have H4 := Lib.hid h4; clear h4
  by_cases hlt : left < n
  · have hr := Lib.hid (lim_of_lt (t := n + sumF ByteArray.size l) (left := left) (by omega))
    have ht : left - (n : Int) < 0 := by omega
    go_enter Tryd.func38, Tryd.ntmps38
    go_wp2
    go_ret
    exact ⟨by rw [hr.out]; rfl, Below.refl _ _⟩
  · have ht : ¬ left - (n : Int) < 0 := by omega
    go_enter Tryd.func38, Tryd.ntmps38
    go_wp2
    go_loopw [1, 5] (fun r i wr => ∃ k : Nat, ∃ q : Int, k ≤ n ∧ i = .int .i64 k ∧ Below w.heap.size w wr ∧ r = .int .i64 q ∧ 0 ≤ q ∧ q ≤ 1048576 ∧ Hid (q = left - n - sumF ByteArray.size (l.take k))) (fun _ i _ => n - (intOf i).toNat)
    case atStart => exact ⟨0, left - n, by omega, rfl, Below.refl _ _, rfl, by omega, by omega, Lib.hid (by simp [sumF])⟩
    case round =>
      obtain ⟨k, q, hk, rfl, hB, rfl, q0, q1, HQ⟩ := hrel
      by_cases hkn : k < n
      · obtain ⟨b, o, vk, rfl, -, hc, hr⟩ := H4.out k hkn
        have c1 := (hB.cell (World.block_lt_of_cell? w _ hc)).trans hc
        have HR := Lib.hid (strE.rd_mono (Nat.le_refl _) hr)
        have HK := Lib.hid (get_some default (l := l) (k := k) (by rw [← Hn.out]; exact hkn))
        clear hc hr
        generalize l[k]?.getD default = x at *
        have hxs : x.size ≤ 9223372036854775807 := by have := HR.out.2; simpa [maxLen] using this
        obtain rfl : vk = .string x := by have := HR.out.1; simpa using this
        have hw : IntKind.i64.wrap (q - (x.size : Int)) = q - (x.size : Int) := IntWalk.i64_in _ ⟨by omega, by omega⟩
        have B1 := Lib.hid hB; clear hB
        have HT := Lib.hid (sumF_take ByteArray.size l k x HK.out)
        have HM := Lib.hid (sumF_le ByteArray.size l (k + 1))
        by_cases hx : q < x.size
        · have ht : q - (x.size : Int) < 0 := by omega
          have hr := Lib.hid (lim_of_lt (t := n + sumF ByteArray.size l) (left := left) (by have := HQ.out; have := HT.out; have := HM.out; omega))
          go_wp2
          go_ret
          exact ⟨by rw [hr.out]; rfl, B1.out⟩
        · have ht : ¬ q - (x.size : Int) < 0 := by omega
          go_wp2
          go_roundw
          case rel => exact ⟨k + 1, q - x.size, by omega, by go_num, B1.out, rfl, by omega, by omega, Lib.hid (by have := HQ.out; have := HT.out; omega)⟩
          case measure => simp [intOf]; omega
      · obtain rfl : k = n := by omega
        have hq : q = lim (k + sumF ByteArray.size l) left := by
          have h1 := HQ.out
          rw [Hn.out, List.take_length] at h1
          rw [lim_of_ge (by rw [Hn.out]; omega)]
          rw [Hn.out]
          omega
        have HQ2 := Lib.hid hq; clear hq
        go_wp2
        go_ret
        exact ⟨by rw [← HQ2.out]; rfl, hB⟩

theorem szStringS_any (v : Value) (l : List ByteArray) (B : Nat) (w : World) (left : Int) (h : strsE.rd w B [v] l) (h0 : 0 ≤ left) (h1 : left ≤ 1048576) :
    Calls Tryd.prog 38 #[v, .int .i64 left] w (Gives (.int .i64 (lim (strSz l) left)) w) := szStringS_raw v l B w left h h0 h1

end Go.Proofs.YtnkhgfdlehhjmaaDoor

/-
  Contracts of the laws' own helpers at one slice type (written by a program of this claim's own, gen_leaf.py).
-/
namespace Go.Proofs.YtnkhgfdlehhjmaaDoor
open Go.RowKit

set_option maxHeartbeats 400000 in
theorem eqStringSS_any (va vb : Value) (la lb : List (List ByteArray)) (B B' : Nat) (w : World) (hB1 : B ≤ w.heap.size) (hB2 : B' ≤ w.heap.size) (ha : strssE.rd w B [va] la) (hb : strssE.rd w B' [vb] lb) :
    Calls Tryd.prog 25 #[va, vb] w (Gives (.bool (decide (la = lb))) w) := by
  obtain ⟨a, ca, rfl, a1, a2, -, a4⟩ := rd_slice1 rfl ha
  obtain ⟨b, cb, rfl, b1, b2, -, b4⟩ := rd_slice1 rfl hb
  clear ha hb
  have H4 := Lib.hid a4; clear a4
  have K4 := Lib.hid b4; clear b4
  by_cases hlen : la.length = lb.length
  · obtain ⟨n, hn⟩ : ∃ n, n = la.length := ⟨_, rfl⟩
    rw [← hn] at hlen H4 a1 ⊢
    rw [← hlen] at K4 b1 ⊢
    have Hn := Lib.hid hn; clear hn
    have Hl := Lib.hid hlen; clear hlen
    go_enter Tryd.func25, Tryd.ntmps25
    go_wp2
    go_loopw [5] (fun i wr => ∃ k : Nat, k ≤ n ∧ i = .int .i64 k ∧ Below w.heap.size w wr ∧ Hid (∀ i, i < k → la[i]?.getD [] = lb[i]?.getD [])) (fun i _ => n - (intOf i).toNat)
    case atStart => exact ⟨0, by omega, rfl, Below.refl _ _, Lib.hid (fun i hi => absurd hi (by omega))⟩
    case round =>
      obtain ⟨k, hk, rfl, hB, HE⟩ := hrel
      by_cases hlt : k < n
      · obtain ⟨p, o, v1, rfl, -, hc, hr1⟩ := H4.out k hlt
        obtain ⟨p', o', v2, rfl, -, hc', hr2⟩ := K4.out k hlt
        have g1 := World.block_lt_of_cell? w _ hc
        have g2 := World.block_lt_of_cell? w _ hc'
        have c1 := (hB.cell g1).trans hc
        have c2 := (hB.cell g2).trans hc'
        have g1 : p < wr.heap.size := Nat.lt_of_lt_of_le g1 hB.size
        have g2 : p' < wr.heap.size := Nat.lt_of_lt_of_le g2 hB.size
        have hov := cell_over wr
        have r1 := strsE.rd_of (hB.mono hB1) hr1
        have r2 := strsE.rd_of (hB.mono hB2) hr2
        have q1 : B ≤ wr.heap.size := Nat.le_trans hB1 hB.size
        have q2 : B' ≤ wr.heap.size := Nat.le_trans hB2 hB.size
        have R1 := Lib.hid r1; clear r1 hr1
        have R2 := Lib.hid r2; clear r2 hr2
        clear hc hc'
        by_cases he : la[k]?.getD [] = lb[k]?.getD []
        · have He := Lib.hid he; clear he
          go_wp2
          refine wp_region_over (by kernel_rfl) (by kernel_rfl) ?_
          repeat (go_big_quiet_step ((go_at_call 54; exact calls_over (eqStringS_is true _ _ _ _ _ _ _ (decide_eq_true He.out) (strsE.rd_of ((below_over wr _).mono q1) R1.out) (strsE.rd_of ((below_over wr _).mono q2) R2.out)))))
          refine wpQuiet_nil ?_
          intro w1 hw1
          go_wp2
          go_roundw
          case rel => exact ⟨k + 1, by omega, by go_num, hB.trans (hw1.mono hB.size), Lib.hid (fun i hi => by by_cases h : i = k; (subst h; exact He.out); exact HE.out i (by omega))⟩
          case measure => simp [intOf]; omega
        · have He := Lib.hid he; clear he
          go_wp2
          refine wp_region_over (by kernel_rfl) (by kernel_rfl) ?_
          repeat (go_big_quiet_step ((go_at_call 54; exact calls_over (eqStringS_is false _ _ _ _ _ _ _ (decide_eq_false He.out) (strsE.rd_of ((below_over wr _).mono q1) R1.out) (strsE.rd_of ((below_over wr _).mono q2) R2.out)))))
          refine wpQuiet_nil ?_
          intro w1 hw1
          go_wp2
          go_ret
          have : la ≠ lb := fun e => He.out (by rw [e])
          exact ⟨by simp [this], hB.trans (hw1.mono hB.size)⟩
      · obtain rfl : k = n := by omega
        go_wp2
        go_ret
        have : la = lb := ext_getD [] (by rw [← Hn.out, Hl.out]) (fun i hi => HE.out i (by rw [Hn.out]; exact hi))
        exact ⟨by simp [this], hB⟩
  · have hb := bne_len hlen
    have : la ≠ lb := fun e => hlen (by rw [e])
    have Ht := Lib.hid this; clear this
    go_enter Tryd.func25, Tryd.ntmps25
    go_wp2
    go_ret
    exact ⟨by simp [Ht.out], Below.refl _ _⟩

theorem eqStringSS_is (r : Bool) (va vb : Value) (la lb : List (List ByteArray)) (B B' : Nat) (w : World) (hB1 : B ≤ w.heap.size) (hB2 : B' ≤ w.heap.size) (hr : decide (la = lb) = r) (ha : strssE.rd w B [va] la) (hb : strssE.rd w B' [vb] lb) :
    Calls Tryd.prog 25 #[va, vb] w (Gives (.bool r) w) := hr ▸ eqStringSS_any va vb la lb B B' w hB1 hB2 ha hb

theorem info_StringSS : (Tryd.prog.info? 47).map (fun i => (i.zero, i.size, i.bytes)) = some (some (.slice none 0 0), 1, 24) := by kernel_rfl

set_option maxHeartbeats 400000 in
theorem toStringSS_any (v : Value) (l : List (List ByteArray)) (B : Nat) (w : World) (hB0 : B ≤ w.heap.size) (h : strssE.rd w B [v] l) (hl : l.length ≤ 1048576) (hm : ∀ x, x ∈ l → x.length ≤ 1048576) :
    Calls Tryd.prog 19 #[v] w (Makes strssE id l w) := by
  obtain ⟨a, cap, rfl, h1, h2, h3, h4⟩ := rd_slice1 rfl h
  obtain ⟨i0, hi, hz0, hz1, hz2⟩ := info_parts info_StringSS
  obtain ⟨n, hn⟩ : ∃ n, n = l.length := ⟨_, rfl⟩
  rw [← hn] at hl h4 h1 ⊢
  have hmk := make_run (P := Tryd.prog) Tryd.underlying25 hi hz0 hz1 n (by rw [hz2]; omega) (by omega)
  have hmo := made_owns (w := w) (ty := 47) (.slice none 0 0) n (by simp [maxLen]; omega)
  have Hn := Lib.hid hn; clear hn h
  have Hm := Lib.hid hm; clear hm
  have H4 := Lib.hid h4; clear h4
  have Hmo := Lib.hid hmo; clear hmo
  clear hi hz0 hz1 hz2
  go_enter Tryd.func19, Tryd.ntmps19
  go_wp2
  simp only [Value.cells] at *
  have hb0 : Below w.heap.size w (w.alloc (Obj.cells (madeCells #[Value.slice none 0 0] n) 47)) := (Below.refl _ _).alloc (Nat.le_refl _) _
  have HB0 := Lib.hid hb0; clear hb0
  generalize w.alloc (Obj.cells (madeCells #[Value.slice none 0 0] n) 47) = w1 at *
  obtain ⟨g, hg⟩ : ∃ g, g = w.heap.size := ⟨_, rfl⟩
  rw [← hg] at Hmo HB0 ⊢
  have Hg := Lib.hid hg; clear hg hmk
  go_loopw [4] (fun i wr => ∃ k : Nat, k ≤ n ∧ i = .int .i64 k ∧ Spine strsE 47 g n (.slice none 0 0) l k w wr) (fun i _ => n - (intOf i).toNat)
  case atStart => exact ⟨0, by omega, rfl, Spine.start Hmo.out HB0.out⟩
  case round =>
    obtain ⟨k, hk, rfl, hS⟩ := hrel
    have hB := hS.below
    by_cases hlt : k < n
    · obtain ⟨b, o, vk, rfl, hb, hc, hr⟩ := H4.out k hlt
      have hb' := World.block_lt_of_cell? w _ hc
      have c1 : wr.cell? ⟨b, o + k, none⟩ = some vk := by rw [hB.cell (by rw [Hg.out]; exact hb')]; exact hc
      have hkl : k < l.length := by rw [← Hn.out]; exact hlt
      have hr1 := strsE.rd_of (hB.mono (by rw [Hg.out]; exact hB0)) hr
      have hlm : (l[k]?.getD default).length ≤ 1048576 := Hm.out _ (by simp [List.getElem?_eq_getElem hkl])
      have hlk : l[k]? = some (l[k]?.getD default) := by simp [List.getElem?_eq_getElem hkl]
      have HLK := Lib.hid hlk; clear hlk
      have HR := Lib.hid hr1; clear hr1 hr hc hb hb'
      have HL := Lib.hid hlm; clear hlm
      go_wp2_with fail
      refine (toStringS_any _ _ _ _ HR.out HL.out).mono ?_
      rintro e w1 ⟨v', fp, rfl, ho, hnd, hge, hbl⟩
      obtain ⟨a', n', cp', rfl⟩ := ow_slice ho
      obtain ⟨c2, c3⟩ := hS.cell hlt hbl
      have HS := Lib.hid (hS.step hlt hbl HLK.out ho hnd hge)
      clear hS ho hnd hge hB hbl
      go_wp2
      go_roundw
      case rel => exact ⟨k + 1, by omega, by go_num, HS.out⟩
      case measure => simp [intOf]; omega
    · obtain rfl : k = n := by omega
      go_wp2
      go_ret
      exact hS.done rfl Hn.out Hg.out

set_option maxHeartbeats 400000 in
theorem szStringSS_any (v : Value) (l : List (List ByteArray)) (B : Nat) (w : World) (left : Int) (hB0 : B ≤ w.heap.size) (h : strssE.rd w B [v] l) (h0 : 0 ≤ left) (h1 : left ≤ 1048576) :
    Calls Tryd.prog 15 #[v, .int .i64 left] w (Gives (.int .i64 (lim (l.length + sumF strSz l) left)) w) := by
  obtain ⟨a, cap, rfl, a1, a2, -, h4⟩ := rd_slice1 rfl h
  clear h
  obtain ⟨n, hn⟩ : ∃ n, n = l.length := ⟨_, rfl⟩
  rw [← hn] at h4 a1 ⊢
  have Hn := Lib.hid hn; clear hn
  have H4 := Lib.hid h4; clear h4
  by_cases hlt : left < n
  · have hr := Lib.hid (lim_of_lt (t := n + sumF strSz l) (left := left) (by omega))
    have ht : left - (n : Int) < 0 := by omega
    go_enter Tryd.func15, Tryd.ntmps15
    go_wp2
    go_ret
    exact ⟨by rw [hr.out]; rfl, Below.refl _ _⟩
  · have ht : ¬ left - (n : Int) < 0 := by omega
    go_enter Tryd.func15, Tryd.ntmps15
    go_wp2
    go_loopw [1, 5] (fun r i wr => ∃ k : Nat, ∃ q : Int, k ≤ n ∧ i = .int .i64 k ∧ Below w.heap.size w wr ∧ r = .int .i64 q ∧ 0 ≤ q ∧ q ≤ 1048576 ∧ Hid (q = left - n - sumF strSz (l.take k))) (fun _ i _ => n - (intOf i).toNat)
    case atStart => exact ⟨0, left - n, by omega, rfl, Below.refl _ _, rfl, by omega, by omega, Lib.hid (by simp [sumF])⟩
    case round =>
      obtain ⟨k, q, hk, rfl, hB, rfl, q0, q1, HQ⟩ := hrel
      by_cases hkn : k < n
      · obtain ⟨b, o, vk, rfl, -, hc, hr⟩ := H4.out k hkn
        have c1 := (hB.cell (World.block_lt_of_cell? w _ hc)).trans hc
        have HR := Lib.hid (strsE.rd_of (hB.mono hB0) hr)
        have HK := Lib.hid (get_some default (l := l) (k := k) (by rw [← Hn.out]; exact hkn))
        clear hc hr
        generalize l[k]?.getD default = x at *
        go_wp2_with fail
        refine (szStringS_any _ x _ _ _ HR.out q0 q1).mono ?_
        rintro e w1 ⟨rfl, hbl⟩
        have B1 := Lib.hid (hB.trans (hbl.mono hB.size)); clear hB hbl
        have HT := Lib.hid (sumF_take strSz l k x HK.out)
        have HM := Lib.hid (sumF_le strSz l (k + 1))
        by_cases hx : q < strSz x
        · rw [lim_of_lt hx]
          have hr := Lib.hid (lim_of_lt (t := n + sumF strSz l) (left := left) (by have := HQ.out; have := HT.out; have := HM.out; omega))
          go_wp2
          go_ret
          exact ⟨by rw [hr.out]; rfl, B1.out⟩
        · rw [lim_of_ge hx]
          have ht : ¬ q - (strSz x : Int) < 0 := by omega
          go_wp2
          go_roundw
          case rel => exact ⟨k + 1, q - strSz x, by omega, by go_num, B1.out, rfl, by omega, by omega, Lib.hid (by have := HQ.out; have := HT.out; omega)⟩
          case measure => simp [intOf]; omega
      · obtain rfl : k = n := by omega
        have hq : q = lim (k + sumF strSz l) left := by
          have h1 := HQ.out
          rw [Hn.out, List.take_length] at h1
          rw [lim_of_ge (by rw [Hn.out]; omega)]
          rw [Hn.out]
          omega
        have HQ2 := Lib.hid hq; clear hq
        go_wp2
        go_ret
        exact ⟨by rw [← HQ2.out]; rfl, hB⟩

end Go.Proofs.YtnkhgfdlehhjmaaDoor

/-
  Contracts of the laws' own szWriter and toWriter (written by a program of this claim's own, gen_writ.py).
-/
namespace Go.Proofs.YtnkhgfdlehhjmaaDoor
open Go.RowKit

def okWriter (r : Writer) : Prop := okTurner r.turner ∧ r.out.length ≤ 1048576 ∧ ∀ x, x ∈ r.out → x.length ≤ 1048576
def totWriter (r : Writer) : Nat := totTurner r.turner + (r.out.length + sumF strSz r.out)

theorem rd_WriterF {w : World} {B : Nat} {cs : List Value} {r : Writer} (h : writE.rd w B cs r) :
    ∃ v2 v3, cs = [.int .i64 r.turner.letters, .int .i64 r.turner.start, v2, v3] ∧ (-9223372036854775808 ≤ r.turner.letters ∧ r.turner.letters ≤ 9223372036854775807) ∧ (-9223372036854775808 ≤ r.turner.start ∧ r.turner.start ≤ 9223372036854775807) ∧ movessE.rd w B [v2] r.turner.moves ∧ strssE.rd w B [v3] r.out := by
  obtain ⟨v2, v3, rfl, h2, h3⟩ := rd_Writer h
  obtain ⟨v2', he, b0, b1, k2⟩ := rd_Turner h2
  obtain rfl : v2 = v2' := by simpa using he
  exact ⟨v2, v3, rfl, b0, b1, k2, h3⟩

theorem sumF_mem {α : Type} (f : α → Nat) (l : List α) (x : α) (h : x ∈ l) : f x ≤ sumF f l := by
  induction l with
  | nil => cases h
  | cons a l ih =>
    show f x ≤ f a + sumF f l
    rcases List.mem_cons.1 h with e | e
    · subst e; omega
    · have := ih e; omega

theorem ok_of_totWriter {r : Writer} (h : ¬ 1048576 < totWriter r) : okWriter r := by
  unfold totWriter at h
  refine ⟨ok_of_totTurner (by omega), by omega, fun x hx => ?_⟩
  have := sumF_mem strSz r.out x hx
  have h2 : x.length ≤ strSz x := by unfold strSz; omega
  omega

set_option maxHeartbeats 2000000 in
theorem toWriter_any (cs : List Value) (r : Writer) (B : Nat) (w : World) (hB0 : B ≤ w.heap.size) (h : writE.rd w B cs r) (hok : okWriter r) :
    Calls Tryd.prog 7 #[.agg cs.toArray] w (MakesS writE id r w) := by
  obtain ⟨v2, v3, rfl, h2, h3⟩ := rd_Writer h
  obtain ⟨v2', he, -, -, k2⟩ := rd_Turner h2
  obtain rfl : v2 = v2' := by simpa using he
  obtain ⟨a2, n2, c2, rfl⟩ := rd_slice k2
  obtain ⟨a3, n3, c3, rfl⟩ := rd_slice h3
  have H2 := Lib.hid h2
  have H3 := Lib.hid h3
  have HO := Lib.hid hok
  clear h h2 h3 k2 hok he
  have S := (((Star.nil w).alloc (cs := #[.int .i64 r.turner.letters, .int .i64 r.turner.start, .slice a2 n2 c2, .slice a3 n3 c3]) (ty := 27)).alloc (cs := #[.int .i64 0, .int .i64 0, .slice none 0 0, .slice none 0 0]) (ty := 34)).alloc (cs := #[.int .i64 0, .int .i64 0, .slice none 0 0, .slice none 0 0]) (ty := 34)
  rw [World.size_alloc, World.size_alloc] at S
  go_enter Tryd.func7, Tryd.ntmps7
  go_wp2_with fail
  generalize hW : ((w.alloc _).alloc _).alloc _ = w0 at S ⊢
  clear hW
  replace S : Star w w0 [oB (w.heap.size + 1 + 1) [.int .i64 0, .int .i64 0, .slice none 0 0, .slice none 0 0] 34, oB (w.heap.size + 1) [.int .i64 0, .int .i64 0, .slice none 0 0, .slice none 0 0] 34, oB w.heap.size [.int .i64 r.turner.letters, .int .i64 r.turner.start, .slice a2 n2 c2, .slice a3 n3 c3] 27] := S
  refine (toTurner_any _ r.turner B _ (Nat.le_trans hB0 S.below.size) (turnE.rd_of (S.below.mono hB0) H2.out) HO.out.1).mono ?_
  rintro e w1 ⟨x1, f1, rfl, o1, d1, lo1, b1⟩
  have S1 := S.made o1 d1 lo1 b1
  have o' := turnE.rd_ow o1
  obtain ⟨u2, rfl, -, -, k2⟩ := rd_Turner o'
  obtain ⟨s2, m2, p2, rfl⟩ := rd_slice k2
  clear o' k2 o1 d1 lo1 b1 S
  replace S1 := S1.sel [1, 2, 3, 0]
  have L0 := S1.blk 0 rfl
  have l0 := L0.cell 0 rfl
  have l1 := L0.cell 1 rfl
  have l2 := L0.cell 2 rfl
  have l3 := L0.cell 3 rfl
  have lf := L0.free
  have a3' := (S1.blk 2 rfl).cell 3 rfl
  have la := (S1.blk 2 rfl).lt
  go_wp2_with fail
  generalize hW : ((w1.setCell _ _).setCell _ _).setCell _ _ = w2
  have S2 : Star w w2 [oB (w.heap.size + 1 + 1) [.int .i64 r.turner.letters, .int .i64 r.turner.start, .slice s2 m2 p2, .slice none 0 0] 34, oB (w.heap.size + 1) [.int .i64 0, .int .i64 0, .slice none 0 0, .slice none 0 0] 34, oB w.heap.size [.int .i64 r.turner.letters, .int .i64 r.turner.start, .slice a2 n2 c2, .slice a3 n3 c3] 27, oE turnE [.int .i64 r.turner.letters, .int .i64 r.turner.start, .slice s2 m2 p2] r.turner] := by
    rw [← hW]
    exact ((S1.set 0 _).set 1 _).set 2 _
  clear hW L0 l0 l1 l2 l3 lf a3' la S1
  refine (toStringSS_any _ r.out B _ (Nat.le_trans hB0 S2.below.size) (strssE.rd_of (S2.below.mono hB0) H3.out) HO.out.2.1 HO.out.2.2).mono ?_
  rintro e w3 ⟨x2, f2, rfl, o2, d2, lo2, b2⟩
  obtain ⟨s3, m3, p3, rfl⟩ := ow_slice o2
  have S3 := (S2.made o2 d2 lo2 b2).sel [1, 2, 4, 0]
  clear o2 d2 lo2 b2 S2
  have L0 := S3.blk 0 rfl
  have l0 := L0.cell 0 rfl
  have l1 := L0.cell 1 rfl
  have l2 := L0.cell 2 rfl
  have l3 := L0.cell 3 rfl
  have lf := L0.free
  have R0 := S3.blk 1 rfl
  have r0 := R0.cell 0 rfl
  have r1 := R0.cell 1 rfl
  have r2 := R0.cell 2 rfl
  have r3 := R0.cell 3 rfl
  have rf := R0.free
  go_wp2
  generalize hW : ((((w3.setCell _ _).setCell _ _).setCell _ _).setCell _ _).setCell _ _ = w4
  have S4 : Star w w4 [oB (w.heap.size + 1) [.int .i64 r.turner.letters, .int .i64 r.turner.start, .slice s2 m2 p2, .slice s3 m3 p3] 34, oE turnE [.int .i64 r.turner.letters, .int .i64 r.turner.start, .slice s2 m2 p2] r.turner, oE strssE [.slice s3 m3 p3] r.out] := by
    rw [← hW]
    exact ((((((S3.set 3 _).sel [1, 2, 3]).set 0 _).set 1 _).set 2 _).set 3 _)
  have A3 := S4.blk 0 rfl
  have q0 := A3.cell 0 rfl
  have q1 := A3.cell 1 rfl
  have q2 := A3.cell 2 rfl
  have q3 := A3.cell 3 rfl
  have S5 := (S4.sel [1, 2]).pair.via (F := fun w : Writer => (w.turner, w.out)) r rfl
  obtain ⟨f9, k1, k2, k3⟩ := Star.out (E := writE) S5
  exact bodyPost_ret (v := .agg #[.int .i64 r.turner.letters, .int .i64 r.turner.start, .slice s2 m2 p2, .slice s3 m3 p3]) (by simp [results, Tryd.results7, go_sem, q0, q1, q2, q3]) rfl ⟨_, f9, rfl, k1, k2, k3, S5.below⟩

set_option maxHeartbeats 1000000 in
theorem szWriter_any (cs : List Value) (r : Writer) (B : Nat) (w : World) (left : Int) (hB0 : B ≤ w.heap.size) (h : writE.rd w B cs r) (h0 : 0 ≤ left) (h1 : left ≤ 1048576) :
    Calls Tryd.prog 5 #[.agg cs.toArray, .int .i64 left] w (Gives (.int .i64 (lim (totWriter r) left)) w) := by
  obtain ⟨v2, v3, rfl, h2, h3⟩ := rd_Writer h
  obtain ⟨v2', he, -, -, k2⟩ := rd_Turner h2
  obtain rfl : v2 = v2' := by simpa using he
  obtain ⟨a2, n2, c2, rfl⟩ := rd_slice k2
  obtain ⟨a3, n3, c3, rfl⟩ := rd_slice h3
  have H2 := Lib.hid h2
  have H3 := Lib.hid h3
  have HT : Hid (totWriter r = totTurner r.turner + (r.out.length + sumF strSz r.out)) := Lib.hid rfl
  clear h h2 h3 k2 he
  have S := (Star.nil w).alloc (cs := #[.int .i64 r.turner.letters, .int .i64 r.turner.start, .slice a2 n2 c2, .slice a3 n3 c3]) (ty := 27)
  go_enter Tryd.func5, Tryd.ntmps5
  go_wp2_with fail
  generalize hW : w.alloc _ = w0 at S ⊢
  clear hW
  replace S : Star w w0 [oB w.heap.size [.int .i64 r.turner.letters, .int .i64 r.turner.start, .slice a2 n2 c2, .slice a3 n3 c3] 27] := S
  refine (szTurner_any _ r.turner B _ left (Nat.le_trans hB0 S.below.size) (turnE.rd_of (S.below.mono hB0) H2.out) h0 h1).mono ?_
  rintro e w1 ⟨rfl, b⟩
  replace S := S.step b
  clear b
  obtain ⟨t1, ht1⟩ : ∃ t, t = totTurner r.turner := ⟨_, rfl⟩
  rw [← ht1] at HT ⊢
  obtain ⟨t2, ht2⟩ : ∃ t, t = r.out.length + sumF strSz r.out := ⟨_, rfl⟩
  rw [← ht2] at HT
  have HT2 := Lib.hid ht2
  clear ht1 ht2
  by_cases hx : left < t1
  · rw [lim_of_lt hx]
    have hr := Lib.hid (lim_of_lt (t := totWriter r) (left := left) (by have := HT.out; omega))
    go_wp2
    go_ret
    exact ⟨by rw [hr.out]; rfl, S.below⟩
  rw [lim_of_ge hx]
  obtain ⟨q, hq⟩ : ∃ q : Int, q = left - (t1 : Int) := ⟨_, rfl⟩
  rw [← hq]
  have hn : ¬ q < 0 := by omega
  have g1 : 0 ≤ q := by omega
  have g2 : q ≤ 1048576 := by omega
  have HQ := Lib.hid hq; clear hq
  have a3' := (S.blk 0 rfl).cell 3 rfl
  go_wp2_with fail
  refine (szStringSS_any _ r.out B _ q (Nat.le_trans hB0 S.below.size) (strssE.rd_of (S.below.mono hB0) H3.out) g1 g2).mono ?_
  rintro e w2 ⟨rfl, b⟩
  replace S := S.step b
  rw [← HT2.out]
  clear b a3'
  by_cases hy : q < t2
  · rw [lim_of_lt hy]
    have hr := Lib.hid (lim_of_lt (t := totWriter r) (left := left) (by have := HT.out; have := HQ.out; omega))
    go_wp2
    go_ret
    exact ⟨by rw [hr.out]; rfl, S.below⟩
  rw [lim_of_ge hy]
  have hr := Lib.hid (lim_of_ge (t := totWriter r) (left := left) (by have := HT.out; have := HQ.out; omega))
  have hh : ¬ q - (t2 : Int) < 0 := by omega
  have he := Lib.hid (show q - (t2 : Int) = left - (totWriter r : Int) by have := HT.out; have := HQ.out; omega)
  go_wp2
  go_ret
  exact ⟨by rw [hr.out, ← he.out]; rfl, S.below⟩

end Go.Proofs.YtnkhgfdlehhjmaaDoor

/-
  ValidWriter of the program: what it answers.
-/
namespace Go.Proofs.YtnkhgfdlehhjmaaDoor
open Go.RowKit

def orowOk (row : List ByteArray) (n : Nat) : Bool := decide (row.length = n) && row.all outOk
def writerOk (r : Writer) : Bool := validTurn r.turner && (decide (r.out.length = r.turner.moves.length) && (List.range r.turner.moves.length).all fun s => orowOk (r.out[s]?.getD default) (r.turner.moves[s]?.getD default).length)

theorem validTurn_is (b : Bool) (cs : List Value) (p : Turner) (B : Nat) (w : World) (hB0 : B ≤ w.heap.size) (h : turnE.rd w B cs p) (hb : validTurn p = b) :
    Calls Tryd.prog 45 #[.agg cs.toArray] w (Gives (.bool b) w) := hb ▸ validTurn_any cs p B w hB0 h

set_option maxRecDepth 100000 in
theorem containsOut_is (b : Bool) (v : Value) (l : List ByteArray) (B : Nat) (w : World) (hB0 : B ≤ w.heap.size) (h : strsE.rd w B [v] l) (hb : (l.any fun t => !outOk t) = b) :
    Calls Tryd.prog 46 #[v, .func (.func 47) #[] #[]] w (Gives (.bool b) w) := by
  subst hb
  refine containsFunc_strs v l B w _ #[] #[] _ hB0 h ?_ ?_
  · intro args w1
    rfl
  · intro vk z w1 _ hz
    obtain ⟨hv, hs⟩ := hz
    obtain rfl : vk = .string z := by simpa using hv
    exact notOut_any z w1 hs

theorem any_out (l : List ByteArray) : (l.any fun t => !outOk t) = !l.all outOk := by
  induction l with
  | nil => rfl
  | cons a l ih => rw [List.any_cons, List.all_cons, ih]; cases outOk a <;> rfl

set_option maxHeartbeats 2000000 in
theorem validWriter_any (cs : List Value) (r : Writer) (B : Nat) (w : World) (hB0 : B ≤ w.heap.size) (h : writE.rd w B cs r) :
    Calls Tryd.prog 20 #[.agg cs.toArray] w (Gives (.bool (writerOk r)) w) := by
  obtain ⟨v2, v3, rfl, h2, h3⟩ := rd_Writer h
  obtain ⟨v2', he, -, -, k2⟩ := rd_Turner h2
  obtain rfl : v2 = v2' := by simpa using he
  obtain ⟨a, cap, rfl, a1, a2, -, a4⟩ := rd_slice1 rfl k2
  obtain ⟨b, bcap, rfl, b1, b2, -, b4⟩ := rd_slice1 rfl h3
  have H2 := Lib.hid h2
  clear h he k2 h3 h2
  have A4 := Lib.hid a4; clear a4
  have B4 := Lib.hid b4; clear b4
  cases hv : validTurn r.turner
  · have HV := Lib.hid hv; clear hv
    have hno : writerOk r = false := by unfold writerOk; rw [HV.out]; rfl
    rw [hno]
    go_enter Tryd.func20, Tryd.ntmps20
    go_wp2_with fail
    generalize hW : w.alloc _ = w0
    obtain ⟨A0, hB⟩ := blk1 hW
    clear hW
    refine (validTurn_is false _ r.turner B _ (Nat.le_trans hB0 hB.size) (turnE.rd_of (hB.mono hB0) H2.out) HV.out).mono ?_
    rintro e w1 ⟨rfl, b9⟩
    go_wp2
    go_ret
    exact ⟨rfl, hB.trans (b9.mono hB.size)⟩
  have HV := Lib.hid hv; clear hv
  obtain ⟨n, hn⟩ : ∃ n, n = r.turner.moves.length := ⟨_, rfl⟩
  obtain ⟨m, hm⟩ : ∃ n, n = r.out.length := ⟨_, rfl⟩
  rw [← hn] at A4 H2 a1 ⊢
  rw [← hm] at B4 b1 ⊢
  have HN := Lib.hid hn; clear hn
  have HM := Lib.hid hm; clear hm
  have HR : Hid (writerOk r = (decide (m = n) && (List.range n).all fun s => orowOk (r.out[s]?.getD default) (r.turner.moves[s]?.getD default).length)) := Lib.hid (by unfold writerOk; rw [HV.out, HN.out, HM.out]; rfl)
  obtain ⟨res, hres⟩ : ∃ x, x = writerOk r := ⟨_, rfl⟩
  rw [← hres]
  have HRES := Lib.hid (hres.trans HR.out); clear hres HR
  by_cases hmn : m = n
  case neg =>
    have hno : res = false := by rw [HRES.out, decide_eq_false hmn]; rfl
    have hb1 : ((m : Int) != (n : Int)) = true := by simp; omega
    rw [hno]
    go_enter Tryd.func20, Tryd.ntmps20
    go_wp2_with fail
    generalize hW : w.alloc _ = w0
    obtain ⟨A0, hB⟩ := blk1 hW
    clear hW
    refine (validTurn_is true _ r.turner B _ (Nat.le_trans hB0 hB.size) (turnE.rd_of (hB.mono hB0) H2.out) HV.out).mono ?_
    rintro e w1 ⟨rfl, b9⟩
    have A0 := A0.of b9 A0.lt
    have c2 := A0.cell 2 rfl
    have c3 := A0.cell 3 rfl
    go_wp2
    go_ret
    exact ⟨rfl, hB.trans (b9.mono hB.size)⟩
  subst hmn
  have hres : Hid (res = (List.range m).all fun s => orowOk (r.out[s]?.getD default) (r.turner.moves[s]?.getD default).length) := Lib.hid (by rw [HRES.out, decide_eq_true rfl, Bool.true_and])
  clear HRES
  have hb1 : ((m : Int) != (m : Int)) = false := by simp
  go_enter Tryd.func20, Tryd.ntmps20
  go_wp2_with fail
  generalize hW : w.alloc _ = w0
  obtain ⟨A0, hB⟩ := blk1 hW
  clear hW
  refine (validTurn_is true _ r.turner B _ (Nat.le_trans hB0 hB.size) (turnE.rd_of (hB.mono hB0) H2.out) HV.out).mono ?_
  rintro e w1 ⟨rfl, b9⟩
  have HB := Lib.hid (hB.trans (b9.mono hB.size))
  have HA := Lib.hid (A0.of b9 A0.lt)
  clear A0 b9 hB
  have c2 := HA.out.cell 2 rfl
  have c3 := HA.out.cell 3 rfl
  go_wp2
  clear c2 c3
  go_loopw [22] (fun i wr => ∃ k : Nat, k ≤ m ∧ i = .int .i64 k ∧ Below w.heap.size w wr ∧ Blk wr w.heap.size [.int .i64 r.turner.letters, .int .i64 r.turner.start, .slice a m cap, .slice b m bcap] 34 ∧ Hid (∀ i, i < k → orowOk (r.out[i]?.getD default) (r.turner.moves[i]?.getD default).length = true)) (fun i _ => m - (intOf i).toNat)
  case atStart => exact ⟨0, by omega, rfl, HB.out, HA.out, Lib.hid (fun i hi => absurd hi (by omega))⟩
  case round =>
    obtain ⟨k, hk, rfl, hB, hA, HE⟩ := hrel
    by_cases hlt : k < m
    case neg =>
      obtain rfl : k = m := by omega
      have hyes : res = true := by rw [hres.out]; exact range_all (fun i hi => HE.out i hi)
      go_wp2
      go_ret
      exact ⟨by rw [hyes]; rfl, hB⟩
    obtain ⟨p, o, vk, rfl, -, hc, hr⟩ := A4.out k hlt
    obtain ⟨p2, o2, vk2, rfl, -, hc2, hr2⟩ := B4.out k hlt
    have g1 := (hB.cell (World.block_lt_of_cell? w _ hc)).trans hc
    have g2 := (hB.cell (World.block_lt_of_cell? w _ hc2)).trans hc2
    have R2 := Lib.hid (strsE.rd_of (hB.mono hB0) hr2)
    obtain ⟨sa, sc, rfl, s1, s2, -, -⟩ := rd_movesE hr
    obtain ⟨ta, tc, rfl, t1, t2, -, -⟩ := rd_strs hr2
    clear hc hc2 hr hr2
    obtain ⟨x, hx⟩ : ∃ x, x = (r.turner.moves[k]?.getD default).length := ⟨_, rfl⟩
    obtain ⟨row, hrow⟩ : ∃ x, x = r.out[k]?.getD default := ⟨_, rfl⟩
    rw [← hx] at g1 s1
    rw [← hrow] at R2 g2 t1
    have HX := Lib.hid hx; clear hx
    have HROW := Lib.hid hrow; clear hrow
    have c2 := hA.cell 2 rfl
    have HA' := Lib.hid hA; have la := hA.lt; clear hA
    have HBr := Lib.hid hB; clear hB
    obtain ⟨y, hy⟩ : ∃ x, x = row.length := ⟨_, rfl⟩
    rw [← hy] at R2 g2 t1
    have HY := Lib.hid hy; clear hy
    by_cases hlen : y = x
    case neg =>
      have hb2 : ((y : Int) != (x : Int)) = true := by simp; omega
      have hno : Hid (res = false) := Lib.hid (by rw [hres.out]; exact range_not hlt (by unfold orowOk; rw [← HROW.out, ← HX.out, decide_eq_false (by rw [← HY.out]; exact hlen)]; rfl))
      clear hlen
      go_wp2
      go_ret
      exact ⟨by rw [hno.out]; rfl, HBr.out⟩
    subst hlen
    have hb2 : ((y : Int) != (y : Int)) = false := by simp
    cases hok : row.all outOk
    · have HOK : Hid ((row.any fun t => !outOk t) = true) := Lib.hid (by rw [any_out, hok]; rfl)
      have hno : Hid (res = false) := Lib.hid (by rw [hres.out]; exact range_not hlt (by unfold orowOk; rw [← HROW.out, hok, Bool.and_false]))
      clear hok
      go_wp2_with fail
      refine (containsOut_is true _ row B _ (Nat.le_trans hB0 HBr.out.size) R2.out HOK.out).mono ?_
      rintro e w5 ⟨rfl, b5⟩
      go_wp2
      go_ret
      exact ⟨by rw [hno.out]; rfl, HBr.out.trans (b5.mono HBr.out.size)⟩
    · have HOK : Hid ((row.any fun t => !outOk t) = false) := Lib.hid (by rw [any_out, hok]; rfl)
      have hyes : Hid (orowOk (r.out[k]?.getD default) (r.turner.moves[k]?.getD default).length = true) := Lib.hid (by unfold orowOk; rw [← HROW.out, ← HX.out, hok, decide_eq_true HY.out.symm]; rfl)
      clear hok
      go_wp2_with fail
      refine (containsOut_is false _ row B _ (Nat.le_trans hB0 HBr.out.size) R2.out HOK.out).mono ?_
      rintro e w5 ⟨rfl, b5⟩
      go_wp2
      go_roundw
      case rel => exact ⟨k + 1, by omega, by go_num, HBr.out.trans (b5.mono HBr.out.size), HA'.out.of b5 la, Lib.hid (fun i hi => by by_cases h : i = k; (subst h; exact hyes.out); exact HE.out i (by omega))⟩
      case measure => simp [intOf]; omega

end Go.Proofs.YtnkhgfdlehhjmaaDoor

/-
  What right turners and writers hold (written by a program of this claim's own, gen_text.py).
-/
namespace Go.Proofs.YtnkhgfdlehhjmaaDoor
open Go.RowKit

/-- What a right move holds. -/
def mvOk (m : Move) : Prop := m.to = -1 ∨ m.to = -2 ∨ ((0 ≤ m.to ∧ m.to ≤ 99) ∧ (-1 ≤ m.dir ∧ m.dir ≤ 1))

theorem mvOk_of {m : Move} {n l k : Int} (h : moveOk m n l k = true) (hn : n ≤ 99) : mvOk m := by
  unfold moveOk at h
  rw [Bool.or_eq_true] at h
  rcases h with h | h
  · unfold isStopB at h
    rw [Bool.and_eq_true, Bool.or_eq_true, beq_iff_eq, beq_iff_eq] at h
    rcases h.1 with h | h
    · exact .inl h
    · exact .inr (.inl h)
  · rw [Bool.and_eq_true, Bool.and_eq_true, Bool.and_eq_true] at h
    have h1 := within_true.1 h.1.1.1
    have h2 := within_true.1 h.1.1.2
    exact .inr (.inr ⟨⟨by omega, by omega⟩, h2⟩)

structure TurnOk (t : Turner) : Prop where
  l1 : 1 ≤ t.letters
  l3 : t.letters ≤ 3
  n1 : 1 ≤ t.moves.length
  n12 : t.moves.length ≤ 12
  s0 : 0 ≤ t.start
  s1 : t.start < t.moves.length
  row : ∀ x, x ∈ t.moves → (x.length : Int) = t.letters + 2 ∧ ∀ k, k < x.length → moveOk (x[k]?.getD default) t.moves.length t.letters k = true

theorem turnOk_of {t : Turner} (h : validTurn t = true) : TurnOk t := by
  unfold validTurn at h
  rw [Bool.and_eq_true, Bool.and_eq_true, Bool.and_eq_true] at h
  have h1 := within_true.1 h.1
  have h2 := within_true.1 h.2.1
  have h3 := within_true.1 h.2.2.1
  refine ⟨h1.1, h1.2, by omega, by omega, h3.1, by omega, fun x hx => ?_⟩
  have h4 := List.all_eq_true.1 h.2.2.2 x hx
  unfold mrowOk at h4
  rw [Bool.and_eq_true, decide_eq_true_eq] at h4
  exact ⟨h4.1, fun k hk => List.all_eq_true.1 h4.2 k (List.mem_range.2 hk)⟩

theorem TurnOk.len {t : Turner} (K : TurnOk t) {x : List Move} (hx : x ∈ t.moves) : x.length ≤ 5 := by
  have := (K.row x hx).1; have := K.l3; omega

theorem TurnOk.mv {t : Turner} (K : TurnOk t) {x : List Move} (hx : x ∈ t.moves) {k : Nat} (hk : k < x.length) : mvOk (x[k]?.getD default) :=
  mvOk_of ((K.row x hx).2 k hk) (by have := K.n12; omega)

theorem mem_getD {α : Type} [Inhabited α] {l : List α} {k : Nat} (h : k < l.length) : l[k]?.getD default ∈ l := by
  rw [List.getElem?_eq_getElem h]; exact List.getElem_mem h

theorem getD_of_mem {α : Type} [Inhabited α] {l : List α} {x : α} (h : x ∈ l) : ∃ k, k < l.length ∧ l[k]?.getD default = x := by
  obtain ⟨k, hk, he⟩ := List.getElem_of_mem h
  exact ⟨k, hk, by rw [List.getElem?_eq_getElem hk]; exact he⟩

structure WritOk (r : Writer) : Prop where
  t : TurnOk r.turner
  v : validTurn r.turner = true
  n : r.out.length = r.turner.moves.length
  row : ∀ s, s < r.out.length → (r.out[s]?.getD default).length = (r.turner.moves[s]?.getD default).length ∧ ∀ x, x ∈ r.out[s]?.getD default → outOk x = true

theorem writOk_of {r : Writer} (h : writerOk r = true) : WritOk r := by
  unfold writerOk at h
  rw [Bool.and_eq_true, Bool.and_eq_true, decide_eq_true_eq] at h
  refine ⟨turnOk_of h.1, h.1, h.2.1, fun s hs => ?_⟩
  have h4 := List.all_eq_true.1 h.2.2 s (List.mem_range.2 (by omega))
  unfold orowOk at h4
  rw [Bool.and_eq_true, decide_eq_true_eq] at h4
  exact ⟨h4.1, fun x hx => List.all_eq_true.1 h4.2 x hx⟩

theorem out_size {x : ByteArray} (h : outOk x = true) : x.size ≤ 3 := by
  unfold outOk at h
  rw [Bool.and_eq_true, decide_eq_true_eq] at h
  exact h.1

theorem WritOk.len {r : Writer} (K : WritOk r) {x : List ByteArray} (hx : x ∈ r.out) : x.length ≤ 5 := by
  obtain ⟨s, hs, rfl⟩ := getD_of_mem hx
  rw [(K.row s hs).1]
  exact K.t.len (mem_getD (by rw [← K.n]; exact hs))

theorem WritOk.sz {r : Writer} (K : WritOk r) {x : List ByteArray} (hx : x ∈ r.out) {y : ByteArray} (hy : y ∈ x) : y.size ≤ 3 := by
  obtain ⟨s, hs, rfl⟩ := getD_of_mem hx
  exact out_size ((K.row s hs).2 y hy)

end Go.Proofs.YtnkhgfdlehhjmaaDoor

/-
  Contracts of the laws' own helpers at one slice type (written by a program of this claim's own, gen_leaf.py).
-/
namespace Go.Proofs.YtnkhgfdlehhjmaaDoor
open Go.RowKit

set_option maxHeartbeats 1000000 in
theorem markMoveS_any (v : Value) (l : List Move) (fp : List Nat) (k0 : Int) (w : World) (h : movesE.ow w [v] l fp) (h0 : 0 ≤ k0) (h1 : k0 + movesM.cnt l ≤ 4611686018427387904) :
    Calls Tryd.prog 85 #[v, .int .i64 k0] w (Marks movesE movesM [v] l fp k0 w) := by
  have h1 : k0 + 2 * (l.length : Int) ≤ 4611686018427387904 := by have : movesM.cnt l = 2 * l.length := rfl; omega
  obtain ⟨n, hn⟩ : ∃ n, n = l.length := ⟨_, rfl⟩
  obtain ⟨rfl, hO⟩ := ow_flats_inv (E := moveE) cMove (fun _ _ _ _ h => ⟨(ow_moveE_inv h).1, (ow_moveE_inv h).2.1⟩) h
  rw [← hn] at hO h1
  clear h
  have Hn := Lib.hid hn; clear hn
  rcases hO.2 with ⟨rfl, h00⟩ | ⟨g, cap, cur, rfl, -, -, hnc, hcm, -⟩
  · have hl0 := Lib.hid (List.eq_nil_of_length_eq_zero (by rw [← Hn.out]; exact h00))
    subst h00
    have HO := Lib.hid hO; clear hO
    go_enter Tryd.func85, Tryd.ntmps85
    go_wp2
    go_loop [1, 5] (fun k i => i = .int .i64 0 ∧ k = .int .i64 k0) (fun _ _ => 0)
    case atStart => exact ⟨rfl, rfl⟩
    case round =>
      obtain ⟨rfl, rfl⟩ := hrel
      go_wp2
      go_ret
      have e := hl0.out
      subst e
      exact marks_nil (ow_flats cMove (fun x hx => by cases hx) HO.out) (fun i hi => absurd hi (by simp)) rfl
  · simp only [maxLen] at hcm
    have hOs : w.ownsRow 0 65 2 (.slice (some ⟨g, 0, none⟩) n cap) n (l.flatMap cMove) := hO
    clear hO
    go_enter Tryd.func85, Tryd.ntmps85
    go_wp2
    go_loopw [1, 5] (fun k i wr => ∃ j : Nat, ∃ l' : List Move, j ≤ n ∧ i = .int .i64 j ∧ k = .int .i64 (k0 + 2 * (j : Int)) ∧ But [g] w wr ∧ Hid (l'.length = n) ∧ wr.ownsRow 0 65 2 (.slice (some ⟨g, 0, none⟩) n cap) n (l'.flatMap cMove) ∧ Hid (∀ i, i < j → l'[i]?.getD default = ⟨k0 + 2 * (i : Int), k0 + 2 * (i : Int) + 1⟩)) (fun _ i _ => n - (intOf i).toNat)
    case atStart => exact ⟨0, l, by omega, rfl, by simp, But.refl _ _, Lib.hid Hn.out.symm, hOs, Lib.hid (fun i hi => absurd hi (by omega))⟩
    case round =>
      obtain ⟨j, l', hj, rfl, rfl, hB, HL, hO', HJ⟩ := hrel
      by_cases hlt : j < n
      · have jn : (j : Int) < n := by omega
        have z0 : wr.cell? ⟨g, j * 2, none⟩ = some (.int .i64 (l'[j]?.getD default).to) := by
          rw [hO'.cellAt (j * 2) (by omega)]; have := flatMap_get default cMove 2 (fun _ => rfl) l' j 0 (by rw [HL.out]; exact hlt) (by omega); rw [show j * 2 = j * 2 + 0 from rfl, this]; rfl
        have z1 : wr.cell? ⟨g, j * 2 + 1, none⟩ = some (.int .i64 (l'[j]?.getD default).dir) := by
          rw [hO'.cellAt (j * 2 + 1) (by omega)]; have := flatMap_get default cMove 2 (fun _ => rfl) l' j 1 (by rw [HL.out]; exact hlt) (by omega); rw [this]; rfl
        have f0 := hO'.frozenAt (j * 2)
        have f1 := hO'.frozenAt (j * 2 + 1)
        have HS := Lib.hid (((hO'.stored (j * 2) (.int .i64 (k0 + 2 * (j : Int)))).1.stored (j * 2 + 1) (.int .i64 (k0 + 2 * (j : Int) + 1))).1)
        clear hO'
        have HX : Hid ((((l'.flatMap cMove).set (j * 2) (.int .i64 (k0 + 2 * (j : Int)))).set (j * 2 + 1) (.int .i64 (k0 + 2 * (j : Int) + 1))) = (l'.set j (⟨k0 + 2 * (j : Int), k0 + 2 * (j : Int) + 1⟩ : Move)).flatMap cMove) := by
          have e0 : (l'.flatMap cMove).set (j * 2) (.int .i64 (k0 + 2 * (j : Int))) = (l'.set j (⟨k0 + 2 * (j : Int), (l'[j]?.getD default).dir⟩ : Move)).flatMap cMove := flatMap_set default cMove 2 (fun _ => rfl) l' j 0 (.int .i64 (k0 + 2 * (j : Int))) ⟨k0 + 2 * (j : Int), (l'[j]?.getD default).dir⟩ (by simp [HL.out]; exact hlt) (by omega) (by simp [HL.out, hlt, cMove])
          have e1 : ((l'.set j (⟨k0 + 2 * (j : Int), (l'[j]?.getD default).dir⟩ : Move)).flatMap cMove).set (j * 2 + 1) (.int .i64 (k0 + 2 * (j : Int) + 1)) = ((l'.set j (⟨k0 + 2 * (j : Int), (l'[j]?.getD default).dir⟩ : Move)).set j (⟨k0 + 2 * (j : Int), k0 + 2 * (j : Int) + 1⟩ : Move)).flatMap cMove := flatMap_set default cMove 2 (fun _ => rfl) (l'.set j (⟨k0 + 2 * (j : Int), (l'[j]?.getD default).dir⟩ : Move)) j 1 (.int .i64 (k0 + 2 * (j : Int) + 1)) ⟨k0 + 2 * (j : Int), k0 + 2 * (j : Int) + 1⟩ (by simp [HL.out]; exact hlt) (by omega) (by simp [HL.out, hlt, cMove])
          rw [List.set_set] at e1
          exact Lib.hid (by rw [e0, e1])
        generalize (l'[j]?.getD default) = x0 at *
        go_wp2
        go_roundw
        case rel =>
          refine ⟨j + 1, l'.set j ⟨k0 + 2 * (j : Int), k0 + 2 * (j : Int) + 1⟩, by omega, by go_num, ret_k (by omega), ((hB.setCell (by simp) _).setCell (by simp) _), Lib.hid (by rw [List.length_set]; exact HL.out), by rw [← HX.out]; exact HS.out, Lib.hid (fun i hi => ?_)⟩
          by_cases e : i = j
          · subst e; rw [List.getElem?_set_self (by rw [HL.out]; exact hlt)]; rfl
          · rw [List.getElem?_set_ne (fun e' => e e'.symm)]; exact HJ.out i (by omega)
        case measure => simp [intOf]; omega
      · obtain rfl : j = n := by omega
        go_wp2
        go_ret
        refine ⟨l', by rw [show movesM.cnt l = 2 * l.length from rfl, ← Hn.out]; show Ending.returned (.int .i64 (k0 + 2 * (j : Int))) = _; congr 2 <;> omega, ?_, fun i hi => HJ.out i (by rw [← HL.out]; exact hi), by show 2 * l'.length = 2 * l.length; rw [HL.out, Hn.out], hB⟩
        refine ow_flats cMove (fun x hx => ?_) (by rw [HL.out]; exact hO')
        obtain ⟨i, hi, rfl⟩ := List.getElem_of_mem hx
        have hi' := HJ.out i (by rw [← HL.out]; exact hi)
        rw [List.getElem?_eq_getElem hi] at hi'
        simp only [Option.getD_some] at hi'
        rw [hi']
        have := HL.out
        exact ow_moveE ⟨by constructor <;> simp only <;> omega, by constructor <;> simp only <;> omega⟩

set_option maxHeartbeats 1000000 in
theorem heldMoveS_any (v : Value) (l : List Move) (B : Nat) (k0 : Int) (w : World) (h : movesE.rd w B [v] l) (hm : movesM.held l k0) (h0 : 0 ≤ k0) (h1 : k0 + movesM.cnt l ≤ 4611686018427387904) :
    Calls Tryd.prog 87 #[v, .int .i64 k0] w (Gives (.int .i64 (k0 + movesM.cnt l)) w) := by
  have h1 : k0 + 2 * (l.length : Int) ≤ 4611686018427387904 := by have : movesM.cnt l = 2 * l.length := rfl; omega
  have Hc := Lib.hid (show (movesM.cnt l : Int) = 2 * (l.length : Int) by have : movesM.cnt l = 2 * l.length := rfl; omega)
  obtain ⟨a, cap, rfl, a1, a2, -, a4⟩ := rd_movesE h
  clear h
  obtain ⟨n, hn⟩ : ∃ n, n = l.length := ⟨_, rfl⟩
  rw [← hn] at a1 a4 h1 Hc ⊢
  have Hn := Lib.hid hn; clear hn
  have H4 := Lib.hid a4; clear a4
  have Hm : Hid (∀ i, i < l.length → l[i]?.getD default = ⟨k0 + 2 * (i : Int), k0 + 2 * (i : Int) + 1⟩) := Lib.hid hm
  clear hm
  go_enter Tryd.func87, Tryd.ntmps87
  go_wp2
  go_loopw [1, 5] (fun k i wr => ∃ j : Nat, j ≤ n ∧ i = .int .i64 j ∧ k = .int .i64 (k0 + 2 * (j : Int)) ∧ Below w.heap.size w wr) (fun _ i _ => n - (intOf i).toNat)
  case atStart => exact ⟨0, by omega, rfl, by simp, Below.refl _ _⟩
  case round =>
    obtain ⟨j, hj, rfl, rfl, hB⟩ := hrel
    by_cases hlt : j < n
    · have jn : (j : Int) < n := by omega
      obtain ⟨b, o, rfl, -, ⟨hc0, hc1⟩, -⟩ := H4.out j hlt
      rw [Hm.out j (by rw [← Hn.out]; exact hlt)] at hc0 hc1
      have c10 := (hB.cell (World.block_lt_of_cell? w _ hc0)).trans hc0
      have c11 := (hB.cell (World.block_lt_of_cell? w _ hc1)).trans hc1
      clear hc0 hc1
      dsimp only at c10 c11
      have t0 : ((k0 + 2 * (j : Int)) != (k0 + 2 * (j : Int))) = false := by simp
      have t1 : ((k0 + 2 * (j : Int) + 1) != (k0 + 2 * (j : Int) + 1)) = false := by simp
      go_wp2
      go_roundw
      case rel => exact ⟨j + 1, by omega, by go_num, ret_k (by omega), hB⟩
      case measure => simp [intOf]; omega
    · obtain rfl : j = n := by omega
      go_wp2
      go_ret
      exact ⟨by rw [Hc.out]; rfl, hB⟩

end Go.Proofs.YtnkhgfdlehhjmaaDoor

/-
  Contracts of the laws' own helpers at one slice type (written by a program of this claim's own, gen_leaf.py).
-/
namespace Go.Proofs.YtnkhgfdlehhjmaaDoor
open Go.RowKit

set_option maxHeartbeats 400000 in
theorem markMoveSS_any (v : Value) (l : List (List Move)) (fp : List Nat) (k0 : Int) (w : World) (h : movessE.ow w [v] l fp) (hn : fp.Nodup) (h0 : 0 ≤ k0) (h1 : k0 + cntL movesM l ≤ 4611686018427387904) :
    Calls Tryd.prog 64 #[v, .int .i64 k0] w (Marks movessE (listM movesM) [v] l fp k0 w) := by
  have hlen := ow_len h
  obtain ⟨a, cap, rfl⟩ := ow_shape h
  obtain ⟨n, hnl⟩ : ∃ n, n = l.length := ⟨_, rfl⟩
  have hS := Lib.hid (MState.start (M := movesM) (k0 := k0) h)
  rw [← hnl] at hlen hS ⊢
  have Hn := Lib.hid hnl; clear hnl h
  have Hnd := Lib.hid hn; clear hn
  go_enter Tryd.func64, Tryd.ntmps64
  go_wp2
  go_loopw [1, 5] (fun k i wr => ∃ j : Nat, ∃ q : Int, j ≤ n ∧ i = .int .i64 j ∧ k = .int .i64 q ∧ Hid (q = k0 + cntL movesM (l.take j)) ∧ MState movesE 66 movesM l fp (.slice a n cap) k0 w wr j) (fun _ i _ => n - (intOf i).toNat)
  case atStart => exact ⟨0, k0, by omega, rfl, rfl, Lib.hid (by simp [cntL]), hS.out⟩
  case round =>
    obtain ⟨j, q, hj, rfl, rfl, HQ, HS⟩ := hrel
    by_cases hlt : j < n
    · obtain ⟨x, hx⟩ : ∃ x, l[j]? = some x := ⟨_, get_some default (by rw [← Hn.out]; exact hlt)⟩
      obtain ⟨g, cap', vk, f, hv, c1, ho, hf, hstep⟩ := HS.elem rfl Hnd.out hx
      simp only [Value.slice.injEq] at hv
      obtain ⟨rfl, -, rfl⟩ := hv
      have hc : cntL movesM (l.take (j + 1)) = cntL movesM (l.take j) + movesM.cnt x := cntL_take movesM l j x hx
      have hc2 := cntL_take_le movesM l (j + 1)
      have hq0 : 0 ≤ q := by have := HQ.out; omega
      have hq1 : q + movesM.cnt x ≤ 4611686018427387904 := by have := HQ.out; omega
      have HC : Hid (q + (movesM.cnt x : Int) = k0 + cntL movesM (l.take (j + 1))) := Lib.hid (by rw [hc, HQ.out]; omega)
      have HST := Lib.hid hstep; clear hstep hx HS hc hc2
      have HF := Lib.hid hf; clear hf
      go_wp2_with fail
      refine (markMoveS_any _ x f q _ ho hq0 hq1).mono ?_
      rintro e w1 ⟨x', rfl, ho', hm', hc', hb'⟩
      have HS2 := HST.out w1 x' hb' ho' (by rw [← HQ.out]; exact hm') hc'
      clear ho ho' hm' hc' hb'
      generalize q + (movesM.cnt x : Int) = q2 at *
      go_wp2
      go_roundw
      case rel => exact ⟨j + 1, q2, by omega, by go_num, rfl, HC, HS2⟩
      case measure => simp [intOf]; omega
    · obtain rfl : j = n := by omega
      have HQ2 : Hid (q = k0 + cntL movesM l) := Lib.hid (by have := HQ.out; rwa [Hn.out, List.take_length] at this)
      rw [Hn.out] at HS
      go_wp2
      go_ret
      have := HS.done
      rw [← HQ2.out] at this
      rw [Hn.out]
      exact this

set_option maxHeartbeats 400000 in
theorem heldMoveSS_any (v : Value) (l : List (List Move)) (B : Nat) (k0 : Int) (w : World) (hB0 : B ≤ w.heap.size) (h : movessE.rd w B [v] l) (hm : heldL movesM l k0) (h0 : 0 ≤ k0) (h1 : k0 + cntL movesM l ≤ 4611686018427387904) :
    Calls Tryd.prog 66 #[v, .int .i64 k0] w (Gives (.int .i64 (k0 + cntL movesM l)) w) := by
  obtain ⟨a, cap, rfl, a1, a2, -, a4⟩ := rd_slice1 rfl h
  clear h
  obtain ⟨n, hn⟩ : ∃ n, n = l.length := ⟨_, rfl⟩
  rw [← hn] at a1 a4 ⊢
  have Hn := Lib.hid hn; clear hn
  have H4 := Lib.hid a4; clear a4
  have Hm := Lib.hid hm; clear hm
  go_enter Tryd.func66, Tryd.ntmps66
  go_wp2
  go_loopw [1, 5] (fun k i wr => ∃ j : Nat, ∃ q : Int, j ≤ n ∧ i = .int .i64 j ∧ k = .int .i64 q ∧ Hid (q = k0 + cntL movesM (l.take j)) ∧ Below w.heap.size w wr) (fun _ i _ => n - (intOf i).toNat)
  case atStart => exact ⟨0, k0, by omega, rfl, rfl, Lib.hid (by simp [cntL]), Below.refl _ _⟩
  case round =>
    obtain ⟨j, q, hj, rfl, rfl, HQ, hB⟩ := hrel
    by_cases hlt : j < n
    · obtain ⟨b, o, vk, rfl, -, hc, hr⟩ := H4.out j hlt
      have c1 := (hB.cell (World.block_lt_of_cell? w _ hc)).trans hc
      have HR := Lib.hid (movesE.rd_of (hB.mono hB0) hr)
      have HX := Lib.hid (get_some default (l := l) (k := j) (by rw [← Hn.out]; exact hlt))
      clear hc hr
      generalize l[j]?.getD default = x at *
      have hc : cntL movesM (l.take (j + 1)) = cntL movesM (l.take j) + movesM.cnt x := cntL_take movesM l j x HX.out
      have hc2 := cntL_take_le movesM l (j + 1)
      have hq0 : 0 ≤ q := by have := HQ.out; omega
      have hq1 : q + movesM.cnt x ≤ 4611686018427387904 := by have := HQ.out; omega
      have HC : Hid (q + (movesM.cnt x : Int) = k0 + cntL movesM (l.take (j + 1))) := Lib.hid (by rw [hc, HQ.out]; omega)
      have HMx := Lib.hid (show movesM.held x q by rw [HQ.out]; exact heldL_take movesM l j k0 x HX.out Hm.out)
      clear hc hc2
      go_wp2_with fail
      refine (heldMoveS_any _ x B q _ HR.out HMx.out hq0 hq1).mono ?_
      rintro e w1 ⟨rfl, hbl⟩
      have B1 := hB.trans (hbl.mono hB.size)
      have ht : ¬ q + (movesM.cnt x : Int) < 0 := by omega
      clear hbl hB
      generalize q + (movesM.cnt x : Int) = q2 at *
      go_wp2
      go_roundw
      case rel => exact ⟨j + 1, q2, by omega, by go_num, rfl, HC, B1⟩
      case measure => simp [intOf]; omega
    · obtain rfl : j = n := by omega
      have HQ2 : Hid (q = k0 + cntL movesM l) := Lib.hid (by have := HQ.out; rwa [Hn.out, List.take_length] at this)
      go_wp2
      go_ret
      exact ⟨by rw [← HQ2.out]; rfl, hB⟩

end Go.Proofs.YtnkhgfdlehhjmaaDoor

/-
  The contracts of the laws' own markTurner and heldTurner (written by a program of this claim's own, gen_structs.py).
-/
namespace Go.Proofs.YtnkhgfdlehhjmaaDoor
open Go.RowKit

def turnM : Mk Turner := ⟨fun r k => (listM movesM).held r.moves (k), fun r => (listM movesM).cnt r.moves⟩

set_option maxHeartbeats 1000000 in
theorem markTurner_any (cs : List Value) (r : Turner) (fp : List Nat) (k0 : Int) (w : World) (h : turnE.ow w cs r fp) (hn : fp.Nodup) (h0 : 0 ≤ k0) (h1 : k0 + turnM.cnt r ≤ 4611686018427387904) :
    Calls Tryd.prog 33 #[.agg cs.toArray, .int .i64 k0] w (Marks turnE turnM cs r fp k0 w) := by
  obtain ⟨v2, f2, rfl, b0, b1, hh2, rfl⟩ := ow_Turner_inv h
  obtain ⟨sa2, sn2, sc2, rfl⟩ := rd_slice (movessE.rd_ow hh2)
  have n2 := hn
  clear hn h
  have N2 := Lib.hid n2; clear n2
  have L2 := Lib.hid (movessE.ow_lt hh2)
  have O2 := Lib.hid hh2; clear hh2
  have HC : Hid (k0 + (((listM movesM).cnt r.moves : Nat) : Int) ≤ 4611686018427387904) := Lib.hid h1
  clear h1
  go_enter Tryd.func33, Tryd.ntmps33
  go_wp2_with fail
  generalize hW : w.alloc _ = w0
  obtain ⟨A0, hB⟩ := blk1 hW
  clear hW
  obtain ⟨g, hg⟩ : ∃ g, g = w.heap.size := ⟨_, rfl⟩
  rw [← hg] at A0 ⊢
  have Hg := Lib.hid hg; clear hg
  have BT := Lib.hid (But.of_below (fp := fp) hB)
  have O2 := Lib.hid (movessE.ow_of hB O2.out)
  clear hB
  have HA := Lib.hid A0; clear A0
  refine (markMoveSS_any _ r.moves fp k0 _ O2.out N2.out (by omega) (show k0 + ((listM movesM).cnt r.moves : Int) ≤ 4611686018427387904 from by have := HC.out; omega)).mono ?_
  rintro e w1 ⟨x2, rfl, p2, m2, k2, bt⟩
  have BT := Lib.hid (BT.out.trans (bt.mono (fun b hb => hb)))
  have HA := Lib.hid (HA.out.but bt (fun hb => by have := L2.out _ hb; have := Hg.out; omega))
  have O2 := Lib.hid p2; have M2 := Lib.hid m2; have K2 := Lib.hid k2
  clear bt p2 m2 k2
  obtain ⟨q0, hq⟩ : ∃ q : Int, q = k0 + ((listM movesM).cnt r.moves : Int) := ⟨_, rfl⟩
  rw [← hq]
  have g0 : 0 ≤ q0 := by omega
  have HQ0 := Lib.hid hq; clear hq
  go_wp2
  go_ret
  have mm0 := M2.out
  refine ⟨{ r with moves := x2 }, ret_k_ret (by show _ = k0 + (((listM movesM).cnt r.moves : Nat) : Int); have := HQ0.out; omega), ?_, mm0, ?_, BT.out⟩
  · exact ow_Turner (r := { r with moves := x2 }) b0 b1 O2.out
  · show (listM movesM).cnt x2 = (listM movesM).cnt r.moves
    rw [K2.out]

set_option maxHeartbeats 1000000 in
theorem heldTurner_any (cs : List Value) (r : Turner) (B : Nat) (k0 : Int) (w : World) (hB0 : B ≤ w.heap.size) (h : turnE.rd w B cs r) (hm : turnM.held r k0) (h0 : 0 ≤ k0) (h1 : k0 + turnM.cnt r ≤ 4611686018427387904) :
    Calls Tryd.prog 35 #[.agg cs.toArray, .int .i64 k0] w (Gives (.int .i64 (k0 + turnM.cnt r)) w) := by
  obtain ⟨v2, rfl, -, -, hh2⟩ := rd_Turner h
  obtain ⟨sa2, sn2, sc2, rfl⟩ := rd_slice hh2
  have R2 := Lib.hid hh2; clear hh2
  have m2 := hm
  clear hm
  have M2 := Lib.hid m2; clear m2
  have HC : Hid (k0 + (((listM movesM).cnt r.moves : Nat) : Int) ≤ 4611686018427387904) := Lib.hid h1
  clear h1 h
  go_enter Tryd.func35, Tryd.ntmps35
  go_wp2_with fail
  generalize hW : w.alloc _ = w0
  obtain ⟨A0, hB⟩ := blk1 hW
  clear hW
  have HA := Lib.hid A0; clear A0
  have HB := Lib.hid hB; clear hB
  have hmk := M2.out
  refine (heldMoveSS_any _ r.moves B k0 _ (Nat.le_trans hB0 HB.out.size) (movessE.rd_of (HB.out.mono hB0) R2.out) hmk (by omega) (show k0 + ((listM movesM).cnt r.moves : Int) ≤ 4611686018427387904 from by have := HC.out; omega)).mono ?_
  rintro e w1 ⟨he, b⟩
  clear hmk
  have he : e = .returned (.int .i64 (k0 + ((listM movesM).cnt r.moves : Int))) := he
  have HA := Lib.hid (HA.out.of b HA.out.lt)
  have HB := Lib.hid (HB.out.trans (b.mono HB.out.size))
  clear b
  obtain ⟨q0, hq⟩ : ∃ q : Int, q = k0 + ((listM movesM).cnt r.moves : Int) := ⟨_, rfl⟩
  rw [← hq] at he
  subst he
  have g0 : 0 ≤ q0 := by omega
  have t0 : ¬ q0 < 0 := by omega
  have HQ0 := Lib.hid hq; clear hq
  go_wp2
  go_ret
  exact ⟨ret_k_ret (by show _ = k0 + (((listM movesM).cnt r.moves : Nat) : Int); have := HQ0.out; omega), HB.out⟩

end Go.Proofs.YtnkhgfdlehhjmaaDoor
