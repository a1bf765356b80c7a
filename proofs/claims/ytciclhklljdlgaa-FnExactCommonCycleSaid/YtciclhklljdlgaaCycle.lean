/-
  Contracts of the program's and of the reference's CommonCycle, and the law.
-/
import Derived.Test.YtciclhklljdlgaaGcd
namespace Go.Proofs.Ytciclhklljdlgaa
open Go.RowKit

theorem cf_cc1 : ∀ args w1, (callFunc 25 args).run Try.prog w1 = .ok (.enter 25 args) w1 := fun _ _ => by kernel_rfl

set_option maxHeartbeats 400000 in
theorem cc1_any (z : Int) (w : World) : Calls Try.prog 25 #[.int .i64 z] w (Gives (.bool (!within z 1 12)) w) := by
  go_enter Try.func25, Try.ntmps25
  go_wp2_with fail
  refine (within_any _ _ _ _).mono ?_
  rintro e w1 ⟨rfl, hbl⟩
  go_wp2
  go_ret
  exact ⟨rfl, hbl⟩

/-- What CommonCycle returns. -/
def ccNum (l : List Int) : Int := if cyclesOk l then cycleOf l else 0
def ccCode (l : List Int) : Int := if cyclesOk l then 0 else 2

theorem all_idx {α : Type} (d : α) (p : α → Bool) (l : List α) (h : l.all p = true) : ∀ i, i < l.length → p (l[i]?.getD d) = true := by
  intro i hi
  rw [List.all_eq_true] at h
  have := h l[i] (List.getElem_mem hi)
  simpa [List.getElem?_eq_getElem hi] using this

set_option maxHeartbeats 1000000 in
theorem commonCycle_any (v : Value) (l : List Int) (B : Nat) (w : World) (hB0 : B ≤ w.heap.size) (h : intsE.rd w B [v] l) :
    Calls Try.prog 11 #[v] w (Gives (.tuple #[.int .i64 (ccNum l), .int .i64 (ccCode l)]) w) := by
  have H := Lib.hid h
  obtain ⟨a, cap, rfl, a1, a2, -, a4⟩ := rd_ints h
  clear h
  obtain ⟨n, hn⟩ : ∃ n, n = l.length := ⟨_, rfl⟩
  rw [← hn] at a1 a4 H ⊢
  have H4 := Lib.hid a4; clear a4
  have Hn := Lib.hid hn; clear hn
  have hsz := Lib.hid (size_ints (.slice a n cap) l B w H.out)
  rw [← Hn.out] at hsz
  cases x1 : within n 1 4 with
  | false =>
    have r1 := Lib.hid (show ccNum l = 0 by simp [ccNum, cyclesOk, ← Hn.out, x1])
    have r2 := Lib.hid (show ccCode l = 2 by simp [ccCode, cyclesOk, ← Hn.out, x1])
    have X1 := Lib.hid x1; clear x1
    go_enter Try.func11, Try.ntmps11
    go_wp2_with fail
    refine hsz.out.mono ?_
    rintro e w1 ⟨rfl, b1⟩
    go_wp2_with fail
    refine (within_kis _ _ _ _ _ X1.out).mono ?_
    rintro e w2 ⟨rfl, rfl⟩
    go_wp2
    go_ret2
    exact ⟨by rw [r1.out, r2.out]; rfl, b1⟩
  | true =>
  have hbd := within_true.1 x1
  have n1 : 1 ≤ n := by omega
  have n4 : n ≤ 4 := by omega
  have X1 := Lib.hid x1; clear x1 hbd
  cases x2 : (l.all fun n => within n 1 12) with
  | false =>
    have r1 := Lib.hid (show ccNum l = 0 by simp only [ccNum, cyclesOk, ← Hn.out, X1.out, x2]; rfl)
    have r2 := Lib.hid (show ccCode l = 2 by simp only [ccCode, cyclesOk, ← Hn.out, X1.out, x2]; rfl)
    have hx := any_not (fun n => within n 1 12) l
    rw [x2] at hx
    have X2 := Lib.hid (show (l.any fun x => !within x 1 12) = true by simpa using hx)
    clear x2 hx
    go_enter Try.func11, Try.ntmps11
    go_wp2_with fail
    refine hsz.out.mono ?_
    rintro e w1 ⟨rfl, b1⟩
    go_wp2_with fail
    refine (within_kis _ _ _ _ _ X1.out).mono ?_
    rintro e w2 ⟨rfl, rfl⟩
    go_wp2_with fail
    refine (containsFunc_ints _ l B _ _ #[] #[] (fun z => !within z 1 12) (Nat.le_trans hB0 b1.size) (intsE.rd_of (b1.mono hB0) H.out) cf_cc1 (fun z w3 _ => cc1_any z w3)).mono ?_
    rintro e w3 ⟨rfl, b3⟩
    rw [X2.out]
    have B3 := b1.trans (b3.mono b1.size)
    clear b1 b3
    go_wp2
    go_ret2
    exact ⟨by rw [r1.out, r2.out]; rfl, B3⟩
  | true =>
    have r1 := Lib.hid (show ccNum l = cycleOf l by simp only [ccNum, cyclesOk, ← Hn.out, X1.out, x2]; rfl)
    have r2 := Lib.hid (show ccCode l = 0 by simp only [ccCode, cyclesOk, ← Hn.out, X1.out, x2]; rfl)
    have hx := any_not (fun n => within n 1 12) l
    rw [x2] at hx
    have X2 := Lib.hid (show (l.any fun x => !within x 1 12) = false by simpa using hx)
    have hall := Lib.hid (fun i hi => within_true.1 (all_idx 0 _ l x2 i hi))
    have hbs := Lib.hid (fun k (hk : k ≤ n) => cycleOf_bounds l hall.out k (by rw [← Hn.out]; exact hk) (by omega))
    clear x2 hx
    go_enter Try.func11, Try.ntmps11
    go_wp2_with fail
    refine hsz.out.mono ?_
    rintro e w1 ⟨rfl, b1⟩
    go_wp2_with fail
    refine (within_kis _ _ _ _ _ X1.out).mono ?_
    rintro e w2 ⟨rfl, rfl⟩
    go_wp2_with fail
    refine (containsFunc_ints _ l B _ _ #[] #[] (fun z => !within z 1 12) (Nat.le_trans hB0 b1.size) (intsE.rd_of (b1.mono hB0) H.out) cf_cc1 (fun z w3 _ => cc1_any z w3)).mono ?_
    rintro e w3 ⟨rfl, b3⟩
    rw [X2.out]
    have B3 := Lib.hid (b1.trans (b3.mono b1.size))
    clear b1 b3
    go_wp2_with fail
    go_loopw [4, 17] (fun o i wr => ∃ k : Nat, ∃ q : Int, k ≤ n ∧ i = .int .i64 k ∧ o = .int .i64 q ∧ Below w.heap.size w wr ∧ 1 ≤ q ∧ q ≤ 20736 ∧ Hid (q = cycleOf (l.take k))) (fun _ i _ => n - (intOf i).toNat)
    case atStart => exact ⟨0, 1, by omega, rfl, rfl, B3.out, by omega, by omega, Lib.hid rfl⟩
    case round =>
      obtain ⟨k, q, hk, rfl, rfl, hB, q1, q2, HQ⟩ := hrel
      by_cases hkn : k < n
      · obtain ⟨b, o, rfl, -, hc, -, -⟩ := H4.out k hkn
        have c1 := (hB.cell (World.block_lt_of_cell? w _ hc)).trans hc
        have ht := Lib.hid (cycleOf_take l k (by rw [← Hn.out]; exact hkn))
        have hb := hall.out k (by rw [← Hn.out]; exact hkn)
        obtain ⟨hb1, hb2⟩ := hb
        have hn1 := hbs.out (k + 1) (by omega)
        have hp := pow12_le (k + 1) (by omega)
        rw [ht.out, ← HQ.out] at hn1
        obtain ⟨z1, z2⟩ := hn1
        have z3 : mult q (l[k]?.getD 0) ≤ 20736 := by omega
        generalize l[k]?.getD 0 = x at *
        have HT : Hid (mult q x = cycleOf (l.take (k + 1))) := Lib.hid (by rw [ht.out, HQ.out])
        clear hc ht hp z2
        go_wp2_with fail
        refine (multiple_any q x _ q1 hb1 (by omega) (by omega)).mono ?_
        rintro e w4 ⟨rfl, b4⟩
        have B4 := hB.trans (b4.mono hB.size)
        clear b4 hB
        generalize mult q x = y at *
        go_wp2
        go_roundw
        case rel => exact ⟨k + 1, y, by omega, by go_num, rfl, B4, z1, z3, HT⟩
        case measure => simp [intOf]; omega
      · obtain rfl : k = n := by omega
        have HQ2 : Hid (q = cycleOf l) := Lib.hid (by have := HQ.out; rwa [Hn.out, List.take_length] at this)
        go_wp2
        go_ret2
        exact ⟨by rw [r1.out, r2.out, ← HQ2.out]; rfl, hB⟩

theorem cyclesOk_iff (l : List Int) : cyclesOk l = true ↔ within l.length 1 4 = true ∧ ∀ i, i < l.length → within (l[i]?.getD 0) 1 12 = true := by
  unfold cyclesOk
  rw [Bool.and_eq_true]
  exact ⟨fun ⟨h1, h2⟩ => ⟨h1, all_idx 0 _ l h2⟩, fun ⟨h1, h2⟩ => ⟨h1, all_of_idx 0 _ l h2⟩⟩

/-- So far all lengths are right; or they are not all right. -/
def CcInv (l : List Int) (n k : Nat) (c : Bool) : Prop := (c = true → within n 1 4 = true ∧ ∀ i, i < k → within (l[i]?.getD 0) 1 12 = true) ∧ (c = false → ¬ cyclesOk l = true)

set_option maxHeartbeats 1000000 in
theorem specCommonCycle_any (v : Value) (l : List Int) (B : Nat) (w : World) (h : intsE.rd w B [v] l) :
    Calls Try.prog 9 #[v] w (Gives (.tuple #[.int .i64 (ccNum l), .int .i64 (ccCode l)]) w) := by
  obtain ⟨a, cap, rfl, a1, a2, -, a4⟩ := rd_ints h
  clear h
  have hiff := Lib.hid (cyclesOk_iff l)
  obtain ⟨n, hn⟩ : ∃ n, n = l.length := ⟨_, rfl⟩
  rw [← hn] at a1 a4 hiff ⊢
  have H4 := Lib.hid a4; clear a4
  have Hn := Lib.hid hn; clear hn
  have rno := Lib.hid (fun h : ¬ cyclesOk l = true => (show ccNum l = 0 ∧ ccCode l = 2 by simp [ccNum, ccCode, h]))
  have ryes := Lib.hid (fun h : cyclesOk l = true => (show ccNum l = cycleOf l ∧ ccCode l = 0 by simp [ccNum, ccCode, h]))
  obtain ⟨c0, hc0⟩ : ∃ c0, within n 1 4 = c0 := ⟨_, rfl⟩
  have X1 := Lib.hid hc0; clear hc0
  go_enter Try.func9, Try.ntmps9
  go_wp2_with ((go_at_call 18; refine (l00In_is _ _ _ _ _ X1.out).mono ?_; rintro e w1 ⟨rfl, rfl⟩))
  go_loopw [4, 5] (fun ok i wr => ∃ k : Nat, ∃ c : Bool, k ≤ n ∧ i = .int .i64 k ∧ ok = .bool c ∧ Below w.heap.size w wr ∧ CcInv l n k c) (fun _ i _ => n - (intOf i).toNat)
  case atStart => exact ⟨0, c0, by omega, rfl, rfl, Below.refl _ _, ⟨fun h => ⟨by rw [X1.out, h], fun i hi => absurd hi (by omega)⟩, fun h hh => by have := (hiff.out.1 hh).1; rw [X1.out, h] at this; cases this⟩⟩
  case round =>
    obtain ⟨k, c, hk, rfl, rfl, hB, HI⟩ := hrel
    by_cases hkn : k < n
    · cases c with
      | false =>
        obtain ⟨r1, r2⟩ := rno.out (HI.2 rfl)
        have R1 := Lib.hid r1; have R2 := Lib.hid r2; clear r1 r2
        go_wp2
        go_ret2
        exact ⟨by rw [R1.out, R2.out]; rfl, hB⟩
      | true =>
        obtain ⟨b, o, rfl, -, hc, -, -⟩ := H4.out k hkn
        have c1 := (hB.cell (World.block_lt_of_cell? w _ hc)).trans hc
        clear hc
        obtain ⟨x, hx⟩ : ∃ x, x = l[k]?.getD 0 := ⟨_, rfl⟩
        rw [← hx] at c1
        have HX := Lib.hid hx; clear hx
        obtain ⟨c2, hc2⟩ : ∃ c2, within x 1 12 = c2 := ⟨_, rfl⟩
        have X2 := Lib.hid hc2; clear hc2
        go_wp2_with ((go_at_call 18; refine (l00In_is _ _ _ _ _ X2.out).mono ?_; rintro e w1 ⟨rfl, rfl⟩))
        go_roundw
        case rel =>
          refine ⟨k + 1, c2, by omega, by go_num, rfl, hB, ⟨fun h => ⟨(HI.1 rfl).1, fun i hi => ?_⟩, fun h hh => ?_⟩⟩
          · by_cases e : i = k
            · subst e; rw [← HX.out, X2.out, h]
            · exact (HI.1 rfl).2 i (by omega)
          · have := (hiff.out.1 hh).2 k hkn
            rw [← HX.out, X2.out, h] at this
            cases this
        case measure => simp [intOf]; omega
    · obtain rfl : k = n := by omega
      cases c with
      | false =>
        obtain ⟨r1, r2⟩ := rno.out (HI.2 rfl)
        have R1 := Lib.hid r1; have R2 := Lib.hid r2; clear r1 r2
        go_wp2
        go_ret2
        exact ⟨by rw [R1.out, R2.out]; rfl, hB⟩
      | true =>
        have hok := hiff.out.2 (HI.1 rfl)
        obtain ⟨r1, r2⟩ := ryes.out hok
        have R1 := Lib.hid r1; have R2 := Lib.hid r2; clear r1 r2
        have hall := Lib.hid (fun i hi => within_true.1 ((HI.1 rfl).2 i hi))
        have hbd := within_true.1 (HI.1 rfl).1
        have n4 : k ≤ 4 := by omega
        have hbs := Lib.hid (fun j (hk : j ≤ k) => cycleOf_bounds l (by rw [← Hn.out]; exact hall.out) j (by rw [← Hn.out]; exact hk) (by omega))
        clear hbd hok HI
        go_wp2
        obtain ⟨wo, hwo⟩ : ∃ wo : World, wo = wr := ⟨_, rfl⟩
        subst hwo
        go_loopw [6, 7] (fun o i wr => ∃ j : Nat, ∃ q : Int, j ≤ k ∧ i = .int .i64 j ∧ o = .int .i64 q ∧ Below w.heap.size w wr ∧ 1 ≤ q ∧ q ≤ 20736 ∧ Hid (q = cycleOf (l.take j))) (fun _ i _ => k - (intOf i).toNat)
        case atStart => exact ⟨0, 1, by omega, rfl, rfl, hB, by omega, by omega, Lib.hid rfl⟩
        case round =>
          obtain ⟨j, q, hj, rfl, rfl, hB, q1, q2, HQ⟩ := hrel
          by_cases hjn : j < k
          · obtain ⟨b, o, rfl, -, hc, -, -⟩ := H4.out j hjn
            have c1 := (hB.cell (World.block_lt_of_cell? w _ hc)).trans hc
            have g1 := World.block_lt_of_cell? wr _ c1
            have ht := Lib.hid (cycleOf_take l j (by rw [← Hn.out]; exact hjn))
            obtain ⟨hb1, hb2⟩ := hall.out j hjn
            have hn1 := hbs.out (j + 1) (by omega)
            have hp := pow12_le (j + 1) (by omega)
            rw [ht.out, ← HQ.out] at hn1
            obtain ⟨z1, z2⟩ := hn1
            have z3 : mult q (l[j]?.getD 0) ≤ 20736 := by omega
            generalize l[j]?.getD 0 = x at *
            have HM := Lib.hid (show mult q x = q / (Nat.gcd q.toNat x.toNat : Int) * x from rfl)
            have HT : Hid (q / (Nat.gcd q.toNat x.toNat : Int) * x = cycleOf (l.take (j + 1))) := Lib.hid (by rw [ht.out, HQ.out]; rfl)
            obtain ⟨d1, d2, d3, d4, -, -⟩ := mult_bounds q1 hb1
            rw [HM.out] at z1 z3
            clear hc ht hp z2 HM
            have c := Lib.hid (fun w => l05Gcd_any q.toNat x.toNat w (by omega) (by omega))
            have e1 := Lib.hid (Int.toNat_of_nonneg (show 0 ≤ q by omega))
            have e2 := Lib.hid (Int.toNat_of_nonneg (show 0 ≤ x by omega))
            generalize (Nat.gcd q.toNat x.toNat : Int) = g at *
            have hwr : IntKind.i64.wrap (q / g * x) = q / g * x := IntWalk.i64_in _ ⟨by omega, by omega⟩
            have hd : q.tdiv g = q / g := Int.tdiv_eq_ediv_of_nonneg (by omega)
            have hov := cell_over wr
            have g0 : (g == 0) = false := by simp; omega
            go_wp2
            refine wp_region_over (by kernel_rfl) (by kernel_rfl) ?_
            repeat (go_big_quiet_step ((go_at_call 22; exact calls_same (show Calls Try.prog _ #[.int .i64 q, .int .i64 x] _ _ from by have := c.out (over wr ‹World›); rw [e1.out, e2.out] at this; exact this))))
            refine wpQuiet_nil ?_
            intro w1 hw1
            have B1 := hB.trans (hw1.mono hB.size)
            clear hw1 hB hwr hd
            go_wp2
            go_roundw
            case rel => exact ⟨j + 1, q / g * x, by omega, by go_num, rfl, B1, z1, z3, HT⟩
            case measure => simp [intOf]; omega
          · obtain rfl : j = k := by omega
            have HQ2 : Hid (q = cycleOf l) := Lib.hid (by have := HQ.out; rwa [Hn.out, List.take_length] at this)
            go_wp2
            go_ret2
            exact ⟨by rw [R1.out, R2.out, ← HQ2.out]; rfl, hB⟩

end Go.Proofs.Ytciclhklljdlgaa
