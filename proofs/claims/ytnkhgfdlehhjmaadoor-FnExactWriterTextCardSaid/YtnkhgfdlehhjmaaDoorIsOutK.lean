/-
  What may be written with a move: the program's and the reference's test of a text.
-/
import Derived.Test.YtnkhgfdlehhjmaaDoorShelfTrimK
import Derived.Test.YtnkhgfdlehhjmaaDoorFuncsK
import Derived.PlainAid
import Derived.Test.YtnkhgfdlehhjmaaDoorRangeAllK
namespace Go.Proofs.YtnkhgfdlehhjmaaDoor
open Go.RowKit Go.PlainAid

def outOk (t : ByteArray) : Bool := decide (t.size ≤ 3) && t.data.toList.all fun b => [97, 98, 99].contains b

theorem drop_all (p : UInt8 → Bool) : ∀ l : List UInt8, l.all p = true → l.dropWhile p = []
  | [], _ => rfl
  | b :: l, h => by
    rw [List.all_cons, Bool.and_eq_true] at h
    rw [List.dropWhile_cons, if_pos h.1]
    exact drop_all p l h.2
theorem drop_some (p : UInt8 → Bool) : ∀ l : List UInt8, l.all p = false → ∃ b r, l.dropWhile p = b :: r ∧ p b = false
  | [], h => by cases h
  | b :: l, h => by
    rw [List.dropWhile_cons]
    by_cases hb : p b = true
    · rw [if_pos hb]
      rw [List.all_cons, hb, Bool.true_and] at h
      exact drop_some p l h
    · rw [if_neg hb]
      exact ⟨b, l, rfl, by simpa using hb⟩
theorem trim_all (l cs : List UInt8) (h : l.all (fun b => cs.contains b) = true) : Lib.trimS l cs = [] := by
  have h1 : l.reverse.dropWhile (cs.contains ·) = [] := drop_all _ _ (by rw [List.all_reverse]; exact h)
  unfold Lib.trimS Lib.trimRightS Lib.trimLeftS
  rw [h1]
  rfl
theorem trim_some (l cs : List UInt8) (h : l.all (fun b => cs.contains b) = false) : Lib.trimS l cs ≠ [] := by
  obtain ⟨b, r, h1, h2⟩ := drop_some (cs.contains ·) l.reverse (by rw [List.all_reverse]; exact h)
  unfold Lib.trimS Lib.trimRightS Lib.trimLeftS
  rw [h1]
  intro e
  have h3 : (b :: r).reverse.all (cs.contains ·) = false := by rw [List.all_reverse, List.all_cons, h2]; rfl
  obtain ⟨b', r', h4, -⟩ := drop_some (cs.contains ·) _ h3
  rw [h4] at e
  cases e

set_option maxHeartbeats 1000000 in
theorem isOut_any (t : ByteArray) (w : World) (hs : t.size ≤ maxLen) :
    Calls Tryd.prog 48 #[.string t] w (Gives (.bool (outOk t)) w) := by
  have hcon := Any.strings_Trim_laid Tryd.lays160 (by kernel_rfl) t ⟨#[97, 98, 99]⟩ w hs (by decide) (ascii_of_all (by decide))
  change Calls Tryd.prog 78 _ _ (fun e w' => e = .returned (.string ⟨(Lib.trimS t.data.toList [97, 98, 99]).toArray⟩) ∧ Below w.heap.size w w') at hcon
  unfold outOk
  by_cases h3 : t.size ≤ 3
  case neg =>
    rw [decide_eq_false h3, Bool.false_and]
    have t1 : ¬ (t.size : Int) ≤ 3 := by omega
    clear hcon
    go_enter Tryd.func48, Tryd.ntmps48
    go_wp2
    go_ret
    exact ⟨rfl, Below.refl _ _⟩
  rw [decide_eq_true h3, Bool.true_and]
  have t1 : (t.size : Int) ≤ 3 := by omega
  cases hall : t.data.toList.all fun b => [97, 98, 99].contains b
  · have hne := trim_some _ _ hall
    generalize Lib.trimS t.data.toList [97, 98, 99] = r at hcon hne
    go_enter Tryd.func48, Tryd.ntmps48
    go_wp2_with fail
    refine hcon.mono ?_
    rintro e w1 ⟨rfl, hB⟩
    obtain ⟨b, r', rfl⟩ := List.exists_cons_of_ne_nil hne
    go_wp2
    go_ret
    exact ⟨rfl, hB⟩
  · have he := trim_all _ _ hall
    rw [he] at hcon
    go_enter Tryd.func48, Tryd.ntmps48
    go_wp2_with fail
    refine hcon.mono ?_
    rintro e w1 ⟨rfl, hB⟩
    go_wp2
    go_ret
    exact ⟨rfl, hB⟩

theorem isOut_is (r : Bool) (t : ByteArray) (w : World) (hr : outOk t = r) (hs : t.size ≤ maxLen) : Calls Tryd.prog 48 #[.string t] w (Gives (.bool r) w) := hr ▸ isOut_any t w hs

/-- A word in the first letters. -/
def wordIn (n : Int) (t : ByteArray) : Bool := (List.range t.size).all fun k => within (bt t k - 97) 0 (n - 1)

set_option maxHeartbeats 1000000 in
theorem l01Word_any (n : Int) (t : ByteArray) (w : World) (hn : 1 ≤ n ∧ n ≤ 100) (hs : t.size ≤ maxLen) :
    Calls Tryd.prog 71 #[.int .i64 n, .string t] w (Keeps (.bool (wordIn n t)) w) := by
  obtain ⟨m, hm⟩ : ∃ m, m = t.size := ⟨_, rfl⟩
  have hb := get_bt t
  have HW : Hid (wordIn n t = (List.range m).all fun k => within (bt t k - 97) 0 (n - 1)) := Lib.hid (by unfold wordIn; rw [hm])
  have wn : IntKind.i64.wrap (n - 1) = n - 1 := IntWalk.i64_in _ ⟨by omega, by omega⟩
  simp only [maxLen] at hs
  go_enter Tryd.func71, Tryd.ntmps71
  go_wp2
  go_loop [5] (fun i => ∃ k : Nat, k ≤ t.size ∧ i = .int .i64 k ∧ Hid (∀ i, i < k → within (bt t i - 97) 0 (n - 1) = true)) (fun i => t.size - (intOf i).toNat)
  case atStart => exact ⟨0, by omega, rfl, Lib.hid (fun i hi => absurd hi (by omega))⟩
  case round =>
    obtain ⟨k, hk, rfl, HE⟩ := hrel
    by_cases hlt : k < t.size
    case neg =>
      have t1 : ¬ (k : Int) < (t.size : Int) := by omega
      go_wp2
      go_ret
      have : wordIn n t = true := by rw [HW.out]; exact range_all (fun i hi => HE.out i (by omega))
      exact ⟨by rw [this]; rfl, rfl⟩
    have t1 : (k : Int) < (t.size : Int) := by omega
    have b0 := bt_nonneg t k
    have b1 := bt_le t k
    cases hok : within (bt t k - 97) 0 (n - 1)
    · have HOK := Lib.hid hok
      clear hok
      go_wp2_with fail
      refine (l00In_is false _ _ _ _ HOK.out).mono ?_
      rintro e w1 ⟨rfl, rfl⟩
      go_wp2
      go_ret
      have : wordIn n t = false := by rw [HW.out, hm]; exact range_not hlt HOK.out
      exact ⟨by rw [this]; rfl, rfl⟩
    · have HOK := Lib.hid hok
      clear hok
      go_wp2_with fail
      refine (l00In_is true _ _ _ _ HOK.out).mono ?_
      rintro e w1 ⟨rfl, rfl⟩
      go_wp2
      go_round
      case rel => exact ⟨k + 1, by omega, by go_num, Lib.hid (fun i hi => by by_cases h : i = k; (subst h; exact HOK.out); exact HE.out i (by omega))⟩
      case measure => simp [intOf]; omega

theorem l01Word_is (r : Bool) (n : Int) (t : ByteArray) (w : World) (hr : wordIn n t = r) (hn : 1 ≤ n ∧ n ≤ 100) (hs : t.size ≤ maxLen) :
    Calls Tryd.prog 71 #[.int .i64 n, .string t] w (Keeps (.bool r) w) := hr ▸ l01Word_any n t w hn hs

theorem abc_in (b : UInt8) : ([97, 98, 99] : List UInt8).contains b = within ((b.toNat : Int) - 97) 0 2 := by
  have key : (List.range 256).all (fun n => (([97, 98, 99] : List UInt8).contains (UInt8.ofNat n)) == within ((n : Int) - 97) 0 2) = true := by kernel_rfl
  have := List.all_eq_true.1 key b.toNat (List.mem_range.2 b.toNat_lt)
  simpa using this

theorem outOk_word (t : ByteArray) : outOk t = (decide (t.size ≤ 3) && wordIn 3 t) := by
  unfold outOk
  congr 1
  rw [Bool.eq_iff_iff, List.all_eq_true]
  unfold wordIn
  rw [List.all_eq_true]
  have hsz := Lib.size_eq t
  constructor
  · intro h k hk
    have hk := List.mem_range.1 hk
    have h1 := h (t.data.toList[k]'(by omega)) (List.getElem_mem _)
    rw [abc_in] at h1
    unfold bt
    rw [dif_pos hk]
    exact h1
  · intro h b hb
    obtain ⟨k, hk, rfl⟩ := List.getElem_of_mem hb
    have h1 := h k (List.mem_range.2 (by omega))
    unfold bt at h1
    rw [dif_pos (by omega)] at h1
    rw [abc_in]
    exact h1

set_option maxHeartbeats 1000000 in
theorem l07Text_any (t : ByteArray) (w : World) (hs : t.size ≤ maxLen) :
    Calls Tryd.prog 40 #[.string t] w (Keeps (.bool (outOk t)) w) := by
  rw [outOk_word]
  by_cases h3 : t.size ≤ 3
  case neg =>
    rw [decide_eq_false h3, Bool.false_and]
    have t1 : ¬ (t.size : Int) ≤ 3 := by omega
    go_enter Tryd.func40, Tryd.ntmps40
    go_wp2
    go_ret
    exact ⟨rfl, rfl⟩
  rw [decide_eq_true h3, Bool.true_and]
  have t1 : (t.size : Int) ≤ 3 := by omega
  cases hw : wordIn 3 t
  · have HW := Lib.hid hw
    clear hw
    go_enter Tryd.func40, Tryd.ntmps40
    go_wp2_with fail
    refine (l01Word_is false _ _ _ HW.out (by omega) hs).mono ?_
    rintro e w1 ⟨rfl, rfl⟩
    go_wp2
    go_ret
    exact ⟨rfl, rfl⟩
  · have HW := Lib.hid hw
    clear hw
    go_enter Tryd.func40, Tryd.ntmps40
    go_wp2_with fail
    refine (l01Word_is true _ _ _ HW.out (by omega) hs).mono ?_
    rintro e w1 ⟨rfl, rfl⟩
    go_wp2
    go_ret
    exact ⟨rfl, rfl⟩

theorem l07Text_is (r : Bool) (t : ByteArray) (w : World) (hr : outOk t = r) (hs : t.size ≤ maxLen) : Calls Tryd.prog 40 #[.string t] w (Keeps (.bool r) w) := hr ▸ l07Text_any t w hs

set_option maxHeartbeats 1000000 in
theorem notOut_any (t : ByteArray) (w : World) (hs : t.size ≤ maxLen) :
    Calls Tryd.prog 47 #[.string t] w (Gives (.bool (!outOk t)) w) := by
  obtain ⟨r, hr⟩ : ∃ r, r = outOk t := ⟨_, rfl⟩
  rw [← hr]
  have HR := Lib.hid hr.symm
  clear hr
  cases r <;>
  · go_enter Tryd.func47, Tryd.ntmps47
    go_wp2_with fail
    refine (isOut_is _ _ _ HR.out hs).mono ?_
    rintro e w1 ⟨rfl, hB⟩
    go_wp2
    go_ret
    exact ⟨rfl, hB⟩

end Go.Proofs.YtnkhgfdlehhjmaaDoor
