/-
  The contract of the reference's ValidRotator (l06Ok).
-/
import Derived.Test.YtmdcoekpmiphjaaValidRot
namespace Go.Proofs.Ytmdcoekpmiphjaa
open Go.RowKit

/-- One row of a rotator. -/
def rotRow (r : Rot) (i : Nat) : Bool := areStates (r.next[i]?.getD []) r.letters r.next.length && within (r.fin[i]?.getD 0) (-2) (r.next.length - 1)

theorem validRot_rows (r : Rot) (h1 : within r.letters 1 3 = true) (h2 : within r.next.length 1 6 = true) (h3 : within r.start 0 (r.next.length - 1) = true) (h4 : (r.fin.length : Int) = r.next.length)
    (h : ∀ i, i < r.next.length → rotRow r i = true) : validRot r = true := by
  have h4' : r.fin.length = r.next.length := by omega
  unfold validRot
  rw [h1, h2, h3, decide_eq_true h4, all_of_idx 0 _ r.fin (fun i hi => ?_), all_of_idx [] _ r.next (fun i hi => ?_)]
  · rfl
  · have := h i hi
    simp only [rotRow, Bool.and_eq_true] at this
    exact this.1
  · have := h i (by omega)
    simp only [rotRow, Bool.and_eq_true] at this
    exact this.2

theorem validRot_row (r : Rot) (i : Nat) (hi : i < r.next.length) (h4 : (r.fin.length : Int) = r.next.length) (h : rotRow r i = false) : validRot r = false := by
  have h4' : r.fin.length = r.next.length := by omega
  unfold validRot
  simp only [rotRow, Bool.and_eq_false_iff] at h
  rcases h with h | h
  · rw [all_not_idx [] (fun l => areStates l r.letters r.next.length) r.next i hi h]
    simp
  · rw [all_not_idx 0 (fun e => within e (-2) (r.next.length - 1)) r.fin i (by omega) h]
    simp

set_option maxHeartbeats 1000000 in
theorem l06Ok_any (b : Nat) (cs : List Value) (r : Rot) (B : Nat) (w : World) (hB0 : B ≤ w.heap.size) (h : rotsE.rd w B cs r) (hp : ∀ i v, cs[i]? = some v → w.cell? ⟨b, i, none⟩ = some v) :
    Calls Try.prog 38 #[.pointer (some ⟨b, 0, none⟩)] w (Gives (.bool (validRot r)) w) := by
  obtain ⟨v3, v4, rfl, b1, b2, h3, h4⟩ := rd_Rot h
  have p0 := hp 0 _ rfl
  have p1 := hp 1 _ rfl
  have p2 := hp 2 _ rfl
  have p3 := hp 3 _ rfl
  clear hp h
  obtain ⟨s3, c3, rfl, l3, m3, -, e3⟩ := rd_slice1 rfl h3
  obtain ⟨s4, c4, rfl, l4, m4, -, e4⟩ := rd_ints h4
  clear h3 h4
  obtain ⟨n, hn⟩ : ∃ n, n = r.next.length := ⟨_, rfl⟩
  rw [← hn] at l3 e3 p2
  obtain ⟨m, hm⟩ : ∃ m, m = r.fin.length := ⟨_, rfl⟩
  rw [← hm] at l4 e4 p3
  have E3 := Lib.hid e3; clear e3
  have E4 := Lib.hid e4; clear e4
  cases x1 : within r.letters 1 3 with
  | false =>
    have hr := Lib.hid (show validRot r = false by simp [validRot, x1])
    have X1 := Lib.hid x1; clear x1
    go_enter Try.func38, Try.ntmps38
    go_wp2_with fail
    refine (l00In_is _ _ _ _ _ X1.out).mono ?_
    rintro e w1 ⟨rfl, rfl⟩
    go_wp2
    go_ret
    exact ⟨by rw [hr.out]; rfl, Below.refl _ _⟩
  | true =>
  have X1 := Lib.hid x1; clear x1
  cases x2 : within n 1 6 with
  | false =>
    have hr := Lib.hid (show validRot r = false by simp [validRot, X1.out, ← hn, x2])
    have X2 := Lib.hid x2; clear x2 hn hm
    go_enter Try.func38, Try.ntmps38
    go_wp2_with fail
    refine (l00In_is _ _ _ _ _ X1.out).mono ?_
    rintro e w1 ⟨rfl, rfl⟩
    go_wp2_with fail
    refine (l00In_is _ _ _ _ _ X2.out).mono ?_
    rintro e w1 ⟨rfl, rfl⟩
    go_wp2
    go_ret
    exact ⟨by rw [hr.out]; rfl, Below.refl _ _⟩
  | true =>
  have hbd := within_true.1 x2
  have bn : n ≤ 6 := by omega
  have bn1 : 1 ≤ n := by omega
  have X2 := Lib.hid x2; clear x2 hbd
  cases x3 : within r.start 0 ((n : Int) - 1) with
  | false =>
    have hr := Lib.hid (show validRot r = false by simp [validRot, X1.out, ← hn, x3])
    have X3 := Lib.hid x3; clear x3 hn hm
    go_enter Try.func38, Try.ntmps38
    go_wp2_with (first
      | (go_at_call_of 28 (Value.int IntKind.i64 r.letters); refine (l00In_is _ _ _ _ _ X1.out).mono ?_; rintro e w1 ⟨rfl, rfl⟩)
      | (go_at_call_of 28 (Value.int IntKind.i64 (n : Int)); refine (l00In_is _ _ _ _ _ X2.out).mono ?_; rintro e w1 ⟨rfl, rfl⟩)
      | (go_at_call_of 28 (Value.int IntKind.i64 r.start); refine (l00In_is _ _ _ _ _ X3.out).mono ?_; rintro e w1 ⟨rfl, rfl⟩))
    go_ret
    exact ⟨by rw [hr.out]; rfl, Below.refl _ _⟩
  | true =>
  have X3 := Lib.hid x3; clear x3
  by_cases x4 : (m : Int) = n
  case neg =>
    have hr := Lib.hid (show validRot r = false by simp [validRot, ← hn, ← hm, x4])
    have b4 : ((m : Int) != (n : Int)) = true := by simpa using x4
    clear hn hm x4
    go_enter Try.func38, Try.ntmps38
    go_wp2_with (first
      | (go_at_call_of 28 (Value.int IntKind.i64 r.letters); refine (l00In_is _ _ _ _ _ X1.out).mono ?_; rintro e w1 ⟨rfl, rfl⟩)
      | (go_at_call_of 28 (Value.int IntKind.i64 (n : Int)); refine (l00In_is _ _ _ _ _ X2.out).mono ?_; rintro e w1 ⟨rfl, rfl⟩)
      | (go_at_call_of 28 (Value.int IntKind.i64 r.start); refine (l00In_is _ _ _ _ _ X3.out).mono ?_; rintro e w1 ⟨rfl, rfl⟩))
    go_ret
    exact ⟨by rw [hr.out]; rfl, Below.refl _ _⟩
  have b4 : ((m : Int) != (n : Int)) = false := by simpa using x4
  have hmn : n = m := by omega
  subst hmn
  have RA := Lib.hid (fun h => validRot_rows r X1.out (by rw [← hn]; exact X2.out) (by rw [← hn]; exact X3.out) (by rw [← hn, ← hm]) h)
  have RN := Lib.hid (fun i hi h => validRot_row r i hi (by rw [← hn, ← hm]) h)
  have Hn := Lib.hid hn; clear hn
  have Hm := Lib.hid hm; clear hm x4
  go_enter Try.func38, Try.ntmps38
  go_wp2_with (first
      | (go_at_call_of 28 (Value.int IntKind.i64 r.letters); refine (l00In_is _ _ _ _ _ X1.out).mono ?_; rintro e w1 ⟨rfl, rfl⟩)
      | (go_at_call_of 28 (Value.int IntKind.i64 (n : Int)); refine (l00In_is _ _ _ _ _ X2.out).mono ?_; rintro e w1 ⟨rfl, rfl⟩)
      | (go_at_call_of 28 (Value.int IntKind.i64 r.start); refine (l00In_is _ _ _ _ _ X3.out).mono ?_; rintro e w1 ⟨rfl, rfl⟩))
  go_loopw [2, 4, 5] (fun _ i _ wr => ∃ k : Nat, k ≤ n ∧ i = .int .i64 k ∧ Below w.heap.size w wr ∧ Hid (∀ i, i < k → rotRow r i = true)) (fun _ i _ _ => n - (intOf i).toNat)
  case atStart => exact ⟨0, by omega, rfl, Below.refl _ _, Lib.hid (fun i hi => absurd hi (by omega))⟩
  case round =>
    obtain ⟨k, hk, rfl, hB, HE⟩ := hrel
    by_cases hkn : k < n
    case neg =>
      obtain rfl : k = n := by omega
      have hv := Lib.hid (RA.out (fun i hi => HE.out i (by rw [Hn.out]; exact hi)))
      go_wp2
      go_ret
      exact ⟨by rw [hv.out]; rfl, hB⟩
    obtain ⟨ob, oo, vk, rfl, hbl, hc3, hr3⟩ := E3.out k hkn
    obtain ⟨rb, ro, rfl, hbl4, hc4, lo4, hi4⟩ := E4.out k hkn
    obtain ⟨s5, c5, rfl, l5, m5, -, e5⟩ := rd_ints hr3
    have E5 := Lib.hid e5; clear e5 hr3
    have HR : Hid (rotRow r k = (areStates (r.next[k]?.getD []) r.letters n && within (r.fin[k]?.getD 0) (-2) ((n : Int) - 1))) := Lib.hid (by rw [rotRow, ← Hn.out])
    have hd : r.next[k]?.getD default = r.next[k]?.getD [] := rfl
    rw [hd] at l5 E5 hc3
    clear hd
    generalize r.next[k]?.getD [] = row at *
    generalize r.fin[k]?.getD 0 = fe at *
    have p0' := (hB.cell (World.block_lt_of_cell? w _ p0)).trans p0
    have p2' := (hB.cell (World.block_lt_of_cell? w _ p2)).trans p2
    have p3' := (hB.cell (World.block_lt_of_cell? w _ p3)).trans p3
    have c3' := (hB.cell (World.block_lt_of_cell? w _ hc3)).trans hc3
    have c4' := (hB.cell (World.block_lt_of_cell? w _ hc4)).trans hc4
    have q0 : b < wr.heap.size := World.block_lt_of_cell? wr _ p0'
    have q3 : ob < wr.heap.size := World.block_lt_of_cell? wr _ c3'
    have q4 : rb < wr.heap.size := World.block_lt_of_cell? wr _ c4'
    have hov := cell_over wr
    have P := Lib.hid (And.intro p0 (And.intro p2 p3)); 
    have HC := Lib.hid hc3
    clear p0 p1 p2 p3 hc3 hc4
    by_cases y1 : (row.length : Int) = r.letters
    case neg =>
      have t1 : ((row.length : Int) != r.letters) = true := by simpa using y1
      have hv := Lib.hid (RN.out k (by rw [← Hn.out]; exact hkn) (by rw [HR.out, areStates, decide_eq_false y1]; rfl))
      clear y1
      go_wp2
      refine wp_region_over (by kernel_rfl) (by kernel_rfl) ?_
      repeat (go_big_quiet_step (fail))
      refine wpQuiet_nil ?_
      intro w1 hw1
      go_wp2
      go_ret
      exact ⟨by rw [hv.out]; rfl, hB.trans (hw1.mono hB.size)⟩
    have t1 : ((row.length : Int) != r.letters) = false := by simpa using y1
    cases y2 : within fe (-2) ((n : Int) - 1) with
    | false =>
      have hv := Lib.hid (RN.out k (by rw [← Hn.out]; exact hkn) (by rw [HR.out, y2, Bool.and_false]))
      have Y2 := Lib.hid y2
      clear y1 y2
      go_wp2
      refine wp_region_over (by kernel_rfl) (by kernel_rfl) ?_
      repeat (go_big_quiet_step ((go_at_call 28; exact calls_same (l00In_is _ _ _ _ _ Y2.out))))
      refine wpQuiet_nil ?_
      intro w1 hw1
      go_wp2
      go_ret
      exact ⟨by rw [hv.out]; rfl, hB.trans (hw1.mono hB.size)⟩
    | true =>
    have Y2 := Lib.hid y2
    have Y1 := Lib.hid y1
    clear y1 y2
    go_wp2
    refine wp_region_over (by kernel_rfl) (by kernel_rfl) ?_
    repeat (go_big_quiet_step ((go_at_call 28; exact calls_same (l00In_is _ _ _ _ _ Y2.out))))
    refine wpQuiet_nil ?_
    intro w1 hw1
    have B1 := hB.trans (hw1.mono hB.size)
    clear hov p0' p2' p3' c3' c4' hw1 hB q0 q3 q4
    go_wp2_with fail
    obtain ⟨wo, hwo⟩ : ∃ wo : World, wo = wr := ⟨_, rfl⟩
    subst hwo
    go_loopw [2, 5] (fun _ i wr => ∃ j : Nat, j ≤ row.length ∧ i = .int .i64 j ∧ Below w.heap.size w wr ∧ Hid (∀ i, i < j → within (row[i]?.getD 0) 0 ((n : Int) - 1) = true)) (fun _ i _ => row.length - (intOf i).toNat)
    case atStart => exact ⟨0, by omega, rfl, B1, Lib.hid (fun i hi => absurd hi (by omega))⟩
    case round =>
      obtain ⟨j, hj, rfl, hB, HJ⟩ := hrel
      have p0' := (hB.cell (World.block_lt_of_cell? w _ P.out.1)).trans P.out.1
      have p2' := (hB.cell (World.block_lt_of_cell? w _ P.out.2.1)).trans P.out.2.1
      by_cases hjn : j < row.length
      case neg =>
        obtain rfl : j = row.length := by omega
        have hnl : ¬ ((row.length : Int) < r.letters) := by have := Y1.out; omega
        have hrow : rotRow r k = true := by
          rw [HR.out, areStates, decide_eq_true Y1.out, all_of_idx 0 _ row (fun i hi => HJ.out i hi), Y2.out]
          rfl
        have HRow := Lib.hid hrow; clear hrow
        go_wp2
        go_roundw
        case rel => exact ⟨k + 1, by omega, by go_num, hB, Lib.hid (fun i hi => by by_cases h : i = k; (subst h; exact HRow.out); exact HE.out i (by omega))⟩
        case measure => simp [intOf]; omega
      have hnl : (j : Int) < r.letters := by have := Y1.out; omega
      obtain ⟨xb, xo, rfl, hxb, hxc, xlo, xhi⟩ := E5.out j hjn
      have c3' := (hB.cell (World.block_lt_of_cell? w _ HC.out)).trans HC.out
      have c5' := (hB.cell (World.block_lt_of_cell? w _ hxc)).trans hxc
      clear hxc
      generalize hxj : row[j]?.getD 0 = xj at *
      have HXJ := Lib.hid hxj; clear hxj
      cases y3 : within xj 0 ((n : Int) - 1) with
      | false =>
        have hv := Lib.hid (RN.out k (by rw [← Hn.out]; exact hkn) (by rw [HR.out, areStates, all_not_idx 0 (fun s => within s 0 ((n : Int) - 1)) row j hjn (by rw [HXJ.out]; exact y3)]; simp))
        have Y3 := Lib.hid y3; clear y3
        go_wp2_with ((go_at_call 28; refine (l00In_is _ _ _ _ _ Y3.out).mono ?_; rintro e w1 ⟨rfl, rfl⟩))
        go_ret
        exact ⟨by rw [hv.out]; rfl, hB⟩
      | true =>
        have Y3 := Lib.hid y3; clear y3
        go_wp2_with ((go_at_call 28; refine (l00In_is _ _ _ _ _ Y3.out).mono ?_; rintro e w1 ⟨rfl, rfl⟩))
        go_roundw
        case rel => exact ⟨j + 1, by omega, by go_num, hB, Lib.hid (fun i hi => by by_cases h : i = j; (subst h; rw [HXJ.out]; exact Y3.out); exact HJ.out i (by omega))⟩
        case measure => simp [intOf]; omega

end Go.Proofs.Ytmdcoekpmiphjaa
