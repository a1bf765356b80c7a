/-
  ValidReader of the reference: what it answers (written by a program of this claim's own, gen_reader.py).
-/
import Derived.Test.YtmbecaiieibcjaaValidRead
import Derived.Test.YtmbecaiieibcjaaHdR
namespace Go.Proofs.Ytmbecaiieibcjaa
open Go.RowKit

section
variable (v3 v4 : Value) (r : Reader) (B g : Nat) (w : World) (hA0 : Hd w g [.int .i64 r.letters, .int .i64 r.start, v3, v4]) (hh3 : boolsE.rd w B [v3] r.accept) (hh4 : intssE.rd w B [v4] r.next)
include hA0 hh3 hh4

set_option maxHeartbeats 1000000 in
theorem l01Ok_no1 (h1 : within r.letters 1 3 = false) : Calls Try.prog 47 #[.pointer (some ⟨g, 0, none⟩)] w (Gives (.bool false) w) := by
  obtain ⟨s3, n3, c3, rfl⟩ := rd_slice hh3
  obtain ⟨n3', c3', hv3, -⟩ := hh3
  simp only [List.cons.injEq, Value.slice.injEq, and_true] at hv3
  obtain ⟨-, rfl, -⟩ := hv3
  obtain ⟨a, cap, rfl, a1, a2, -, a4⟩ := rd_slice1 rfl hh4
  obtain ⟨n, hn⟩ : ∃ n, n = r.accept.length := ⟨_, rfl⟩
  have HN : Hid (n = r.accept.length) := Lib.hid hn
  obtain ⟨m, hm⟩ : ∃ m, m = r.next.length := ⟨_, rfl⟩
  have HM : Hid (m = r.next.length) := Lib.hid hm
  rw [← hn, ← hm] at hA0
  rw [← hm] at hh4 a1 a4
  have T1 := Lib.hid h1
  have HA := Lib.hid hA0
  have c0 := hA0.cell 0 rfl
  have c1 := hA0.cell 1 rfl
  have c2 := hA0.cell 2 rfl
  have c3 := hA0.cell 3 rfl
  have A4 := Lib.hid a4
  clear hh4 hn hm a4 hA0 h1
  go_enter Try.func47, Try.ntmps47
  go_wp2_with fail
  refine (l00In_is false _ _ _ _ T1.out).mono ?_
  rintro e w1 ⟨rfl, rfl⟩
  go_wp2
  go_ret
  exact ⟨rfl, Below.refl _ _⟩

set_option maxHeartbeats 1000000 in
theorem l01Ok_no2 (h1 : within r.letters 1 3 = true) (h2 : within r.accept.length 1 300 = false) : Calls Try.prog 47 #[.pointer (some ⟨g, 0, none⟩)] w (Gives (.bool false) w) := by
  obtain ⟨s3, n3, c3, rfl⟩ := rd_slice hh3
  obtain ⟨n3', c3', hv3, -⟩ := hh3
  simp only [List.cons.injEq, Value.slice.injEq, and_true] at hv3
  obtain ⟨-, rfl, -⟩ := hv3
  obtain ⟨a, cap, rfl, a1, a2, -, a4⟩ := rd_slice1 rfl hh4
  obtain ⟨n, hn⟩ : ∃ n, n = r.accept.length := ⟨_, rfl⟩
  have HN : Hid (n = r.accept.length) := Lib.hid hn
  obtain ⟨m, hm⟩ : ∃ m, m = r.next.length := ⟨_, rfl⟩
  have HM : Hid (m = r.next.length) := Lib.hid hm
  rw [← hn, ← hm] at hA0
  rw [← hm] at hh4 a1 a4
  rw [← hn] at h2
  have T1 := Lib.hid h1
  have T2 := Lib.hid h2
  have HA := Lib.hid hA0
  have c0 := hA0.cell 0 rfl
  have c1 := hA0.cell 1 rfl
  have c2 := hA0.cell 2 rfl
  have c3 := hA0.cell 3 rfl
  have A4 := Lib.hid a4
  clear hh4 hn hm a4 hA0 h1 h2
  go_enter Try.func47, Try.ntmps47
  go_wp2_with fail
  refine (l00In_is true _ _ _ _ T1.out).mono ?_
  rintro e w1 ⟨rfl, rfl⟩
  go_wp2_with fail
  refine (l00In_is false _ _ _ _ T2.out).mono ?_
  rintro e w2 ⟨rfl, rfl⟩
  go_wp2
  go_ret
  exact ⟨rfl, Below.refl _ _⟩

set_option maxHeartbeats 1000000 in
theorem l01Ok_no3 (h1 : within r.letters 1 3 = true) (h2 : within r.accept.length 1 300 = true) (h3 : within r.start 0 (r.accept.length - 1) = false) : Calls Try.prog 47 #[.pointer (some ⟨g, 0, none⟩)] w (Gives (.bool false) w) := by
  obtain ⟨s3, n3, c3, rfl⟩ := rd_slice hh3
  obtain ⟨n3', c3', hv3, -⟩ := hh3
  simp only [List.cons.injEq, Value.slice.injEq, and_true] at hv3
  obtain ⟨-, rfl, -⟩ := hv3
  obtain ⟨a, cap, rfl, a1, a2, -, a4⟩ := rd_slice1 rfl hh4
  obtain ⟨n, hn⟩ : ∃ n, n = r.accept.length := ⟨_, rfl⟩
  have HN : Hid (n = r.accept.length) := Lib.hid hn
  obtain ⟨m, hm⟩ : ∃ m, m = r.next.length := ⟨_, rfl⟩
  have HM : Hid (m = r.next.length) := Lib.hid hm
  rw [← hn, ← hm] at hA0
  rw [← hm] at hh4 a1 a4
  rw [← hn] at h2
  rw [← hn] at h3
  have T1 := Lib.hid h1
  have T2 := Lib.hid h2
  have hn1 := within_true.1 h2
  have T3 := Lib.hid h3
  have hw : IntKind.i64.wrap ((n : Int) - 1) = (n : Int) - 1 := IntWalk.i64_in _ ⟨by omega, by omega⟩
  have hl1 := within_true.1 h1
  have HA := Lib.hid hA0
  have c0 := hA0.cell 0 rfl
  have c1 := hA0.cell 1 rfl
  have c2 := hA0.cell 2 rfl
  have c3 := hA0.cell 3 rfl
  have A4 := Lib.hid a4
  clear hh4 hn hm a4 hA0 h1 h2 h3
  go_enter Try.func47, Try.ntmps47
  go_wp2_with fail
  refine (l00In_is true _ _ _ _ T1.out).mono ?_
  rintro e w1 ⟨rfl, rfl⟩
  go_wp2_with fail
  refine (l00In_is true _ _ _ _ T2.out).mono ?_
  rintro e w2 ⟨rfl, rfl⟩
  go_wp2_with fail
  refine (l00In_is false _ _ _ _ T3.out).mono ?_
  rintro e w3 ⟨rfl, rfl⟩
  go_wp2
  go_ret
  exact ⟨rfl, Below.refl _ _⟩

set_option maxHeartbeats 1000000 in
theorem l01Ok_no4 (h1 : within r.letters 1 3 = true) (h2 : within r.accept.length 1 300 = true) (h3 : within r.start 0 (r.accept.length - 1) = true) (h4 : ¬ (r.next.length : Int) = r.accept.length) : Calls Try.prog 47 #[.pointer (some ⟨g, 0, none⟩)] w (Gives (.bool false) w) := by
  obtain ⟨s3, n3, c3, rfl⟩ := rd_slice hh3
  obtain ⟨n3', c3', hv3, -⟩ := hh3
  simp only [List.cons.injEq, Value.slice.injEq, and_true] at hv3
  obtain ⟨-, rfl, -⟩ := hv3
  obtain ⟨a, cap, rfl, a1, a2, -, a4⟩ := rd_slice1 rfl hh4
  obtain ⟨n, hn⟩ : ∃ n, n = r.accept.length := ⟨_, rfl⟩
  have HN : Hid (n = r.accept.length) := Lib.hid hn
  obtain ⟨m, hm⟩ : ∃ m, m = r.next.length := ⟨_, rfl⟩
  have HM : Hid (m = r.next.length) := Lib.hid hm
  rw [← hn, ← hm] at hA0
  rw [← hm] at hh4 a1 a4
  rw [← hn] at h2
  rw [← hn] at h3
  rw [← hn, ← hm] at h4
  have T1 := Lib.hid h1
  have T2 := Lib.hid h2
  have hn1 := within_true.1 h2
  have T3 := Lib.hid h3
  have hw : IntKind.i64.wrap ((n : Int) - 1) = (n : Int) - 1 := IntWalk.i64_in _ ⟨by omega, by omega⟩
  have hl1 := within_true.1 h1
  have X4 : ((m : Int) != (n : Int)) = true := by simpa using h4
  have HA := Lib.hid hA0
  have c0 := hA0.cell 0 rfl
  have c1 := hA0.cell 1 rfl
  have c2 := hA0.cell 2 rfl
  have c3 := hA0.cell 3 rfl
  have A4 := Lib.hid a4
  clear hh4 hn hm a4 hA0 h1 h2 h3 h4
  go_enter Try.func47, Try.ntmps47
  go_wp2_with fail
  refine (l00In_is true _ _ _ _ T1.out).mono ?_
  rintro e w1 ⟨rfl, rfl⟩
  go_wp2_with fail
  refine (l00In_is true _ _ _ _ T2.out).mono ?_
  rintro e w2 ⟨rfl, rfl⟩
  go_wp2_with fail
  refine (l00In_is true _ _ _ _ T3.out).mono ?_
  rintro e w3 ⟨rfl, rfl⟩
  go_wp2
  go_ret
  exact ⟨rfl, Below.refl _ _⟩

set_option maxHeartbeats 1000000 in
theorem l01Ok_yes (h1 : within r.letters 1 3 = true) (h2 : within r.accept.length 1 300 = true) (h3 : within r.start 0 (r.accept.length - 1) = true) (h4 : (r.next.length : Int) = r.accept.length) : Calls Try.prog 47 #[.pointer (some ⟨g, 0, none⟩)] w (Gives (.bool (r.next.all fun l => areStates l r.letters r.accept.length)) w) := by
  obtain ⟨s3, n3, c3, rfl⟩ := rd_slice hh3
  obtain ⟨n3', c3', hv3, -⟩ := hh3
  simp only [List.cons.injEq, Value.slice.injEq, and_true] at hv3
  obtain ⟨-, rfl, -⟩ := hv3
  obtain ⟨a, cap, rfl, a1, a2, -, a4⟩ := rd_slice1 rfl hh4
  obtain ⟨n, hn⟩ : ∃ n, n = r.accept.length := ⟨_, rfl⟩
  have HN : Hid (n = r.accept.length) := Lib.hid hn
  obtain ⟨m, hm⟩ : ∃ m, m = r.next.length := ⟨_, rfl⟩
  have HM : Hid (m = r.next.length) := Lib.hid hm
  rw [← hn, ← hm] at hA0
  rw [← hm] at hh4 a1 a4
  rw [← hn] at h2
  rw [← hn] at h3
  rw [← hn, ← hm] at h4
  rw [← hn]
  have T1 := Lib.hid h1
  have T2 := Lib.hid h2
  have hn1 := within_true.1 h2
  have T3 := Lib.hid h3
  have hw : IntKind.i64.wrap ((n : Int) - 1) = (n : Int) - 1 := IntWalk.i64_in _ ⟨by omega, by omega⟩
  have hl1 := within_true.1 h1
  have X4 : ((m : Int) != (n : Int)) = false := by simpa using h4
  obtain rfl : n = m := by omega
  have HA := Lib.hid hA0
  have c0 := hA0.cell 0 rfl
  have c1 := hA0.cell 1 rfl
  have c2 := hA0.cell 2 rfl
  have c3 := hA0.cell 3 rfl
  have A4 := Lib.hid a4
  clear hh4 hn hm a4 hA0 h1 h2 h3 h4
  go_enter Try.func47, Try.ntmps47
  go_wp2_with fail
  refine (l00In_is true _ _ _ _ T1.out).mono ?_
  rintro e w1 ⟨rfl, rfl⟩
  go_wp2_with fail
  refine (l00In_is true _ _ _ _ T2.out).mono ?_
  rintro e w2 ⟨rfl, rfl⟩
  go_wp2_with fail
  refine (l00In_is true _ _ _ _ T3.out).mono ?_
  rintro e w3 ⟨rfl, rfl⟩
  go_wp2
  clear c0 c1 c2 c3
  go_loopw [4] (fun i wr => ∃ k : Nat, k ≤ n ∧ i = .int .i64 k ∧ Below w.heap.size w wr ∧ Hid (∀ i, i < k → areStates (r.next[i]?.getD default) r.letters n = true)) (fun i _ => n - (intOf i).toNat)
  case atStart => exact ⟨0, by omega, rfl, Below.refl _ _, Lib.hid (fun i hi => absurd hi (by omega))⟩
  case round =>
    obtain ⟨k, hk, rfl, hB, HE⟩ := hrel
    have hA0 := HA.out.of hB HA.out.lt
    have c3z := hA0.cell 3 rfl
    clear hA0
    by_cases hlt : k < n
    case neg =>
      obtain rfl : k = n := by omega
      go_wp2
      go_ret
      have : (r.next.all fun l => areStates l r.letters (k : Int)) = true := all_of_idx default _ _ (fun i hi => HE.out i (by rw [HM.out]; exact hi))
      exact ⟨by rw [this]; rfl, hB⟩
    obtain ⟨b, o, vk, rfl, -, hc, hr⟩ := A4.out k hlt
    have g1 := (hB.cell (World.block_lt_of_cell? w _ hc)).trans hc
    have HG := Lib.hid hc
    have R0 := Lib.hid hr; clear hr hc
    obtain ⟨row, hrow⟩ : ∃ x, x = r.next[k]?.getD default := ⟨_, rfl⟩
    rw [← hrow] at R0
    have HROW := Lib.hid hrow; clear hrow
    obtain ⟨ra, rcap, rfl, r1, r2, -, r4⟩ := rd_ints R0.out
    clear R0
    have R4 := Lib.hid r4; clear r4
    have hA := HA.out.of hB HA.out.lt
    have c0 := hA.cell 0 rfl
    have c3 := hA.cell 3 rfl
    have lA := hA.lt
    clear hA
    have HBr := Lib.hid hB; clear hB
    by_cases hlen : (row.length : Int) = r.letters
    case neg =>
      have hb : ((row.length : Int) != r.letters) = true := by simpa using hlen
      have hno := Lib.hid (show areStates row r.letters n = false by unfold areStates; rw [decide_eq_false hlen]; rfl)
      clear hlen
      go_wp2
      go_quiet (fail)
      go_wp2
      go_ret
      have : (r.next.all fun l => areStates l r.letters (n : Int)) = false := all_not_idx default _ _ k (by rw [← HM.out]; exact hlt) (by rw [← HROW.out]; exact hno.out)
      exact ⟨by rw [this]; rfl, below_drewN HBr.out _⟩
    have hb : ((row.length : Int) != r.letters) = false := by simpa using hlen
    have Hlen := Lib.hid hlen
    have hrl : row.length ≤ 3 := by omega
    go_wp2
    go_quiet (fail)
    go_wp2
    clear c0 c3 lA hb g1
    obtain ⟨q, hq⟩ : ∃ q, q = row.length := ⟨_, rfl⟩
    rw [← hq] at hrl R4 hlen HG r1 ⊢
    have HQ := Lib.hid hq; clear hq
    go_loopw [5] (fun i wr => ∃ c : Nat, c ≤ q ∧ i = .int .i64 c ∧ Below w.heap.size w wr ∧ Hid (∀ i, i < c → within (row[i]?.getD 0) 0 ((n : Int) - 1) = true)) (fun i _ => q - (intOf i).toNat)
    case atStart => exact ⟨0, by omega, rfl, below_drewN HBr.out _, Lib.hid (fun i hi => absurd hi (by omega))⟩
    case round =>
      obtain ⟨c, hc, rfl, hB, HC⟩ := hrel
      have hA := HA.out.of hB HA.out.lt
      have c0 := hA.cell 0 rfl
      have c3 := hA.cell 3 rfl
      have lA := hA.lt
      clear hA
      have g1 := (hB.cell (World.block_lt_of_cell? w _ HG.out)).trans HG.out
      by_cases hcm : c < q
      case neg =>
        obtain rfl : c = q := by omega
        have hyes : Hid (areStates row r.letters n = true) := Lib.hid (by unfold areStates; rw [decide_eq_true Hlen.out, Bool.true_and]; exact all_of_idx 0 _ _ (fun i hi => HC.out i (by rw [HQ.out]; exact hi)))
        clear hlen
        go_wp2
        go_roundw
        case rel => exact ⟨k + 1, by omega, by go_num, hB, Lib.hid (fun i hi => by by_cases h : i = k; (subst h; rw [← HROW.out]; exact hyes.out); exact HE.out i (by omega))⟩
        case measure => simp [intOf]; omega
      have Hlen2 := Lib.hid hlen; clear hlen
      obtain ⟨s, t, rfl, -, hp0, -⟩ := R4.out c hcm
      have q0 := (hB.cell (World.block_lt_of_cell? w _ hp0)).trans hp0
      clear hp0
      have HB5 := Lib.hid hB; clear hB
      generalize hmv : row[c]?.getD 0 = mv at *
      have HMV := Lib.hid hmv; clear hmv
      cases hok : within mv 0 ((n : Int) - 1)
      case false =>
        have HOK := Lib.hid hok; clear hok
        go_wp2_with fail
        refine (l00In_is false _ _ _ _ HOK.out).mono ?_
        rintro e w5 ⟨rfl, rfl⟩
        have hno : Hid (areStates row r.letters n = false) := Lib.hid (by unfold areStates; rw [decide_eq_true Hlen.out, Bool.true_and]; exact all_not_idx 0 _ _ c (by rw [← HQ.out]; exact hcm) (by rw [HMV.out]; exact HOK.out))
        go_wp2
        go_ret
        have : (r.next.all fun l => areStates l r.letters (n : Int)) = false := all_not_idx default _ _ k (by rw [← HM.out]; exact hlt) (by rw [← HROW.out]; exact hno.out)
        exact ⟨by rw [this]; rfl, HB5.out⟩
      have HOK := Lib.hid hok; clear hok
      go_wp2_with fail
      refine (l00In_is true _ _ _ _ HOK.out).mono ?_
      rintro e w5 ⟨rfl, rfl⟩
      go_wp2
      go_roundw
      case rel => exact ⟨c + 1, by omega, by go_num, HB5.out, Lib.hid (fun i hi => by by_cases h : i = c; (subst h; rw [HMV.out]; exact HOK.out); exact HC.out i (by omega))⟩
      case measure => simp [intOf]; omega

end

theorem l01Ok_any (v3 v4 : Value) (r : Reader) (B g : Nat) (w : World) (hA0 : Hd w g [.int .i64 r.letters, .int .i64 r.start, v3, v4]) (hh3 : boolsE.rd w B [v3] r.accept) (hh4 : intssE.rd w B [v4] r.next) :
    Calls Try.prog 47 #[.pointer (some ⟨g, 0, none⟩)] w (Gives (.bool (validRead r)) w) := by
  unfold validRead
  cases h1 : within r.letters 1 3 with
  | false => rw [Bool.false_and]; exact l01Ok_no1 v3 v4 r B g w hA0 hh3 hh4 h1
  | true =>
    rw [Bool.true_and]
    cases h2 : within r.accept.length 1 300 with
    | false => rw [Bool.false_and]; exact l01Ok_no2 v3 v4 r B g w hA0 hh3 hh4 h1 h2
    | true =>
      rw [Bool.true_and]
      cases h3 : within r.start 0 (r.accept.length - 1) with
      | false => rw [Bool.false_and]; exact l01Ok_no3 v3 v4 r B g w hA0 hh3 hh4 h1 h2 h3
      | true =>
        rw [Bool.true_and]
        by_cases h4 : (r.next.length : Int) = r.accept.length
        · rw [decide_eq_true h4, Bool.true_and]; exact l01Ok_yes v3 v4 r B g w hA0 hh3 hh4 h1 h2 h3 h4
        · rw [decide_eq_false h4, Bool.false_and]; exact l01Ok_no4 v3 v4 r B g w hA0 hh3 hh4 h1 h2 h3 h4

theorem l01Ok_is (b : Bool) (v3 v4 : Value) (r : Reader) (B g : Nat) (w : World) (hA0 : Hd w g [.int .i64 r.letters, .int .i64 r.start, v3, v4]) (hh3 : boolsE.rd w B [v3] r.accept) (hh4 : intssE.rd w B [v4] r.next) (hb : validRead r = b) :
    Calls Try.prog 47 #[.pointer (some ⟨g, 0, none⟩)] w (Gives (.bool b) w) := hb ▸ l01Ok_any v3 v4 r B g w hA0 hh3 hh4

end Go.Proofs.Ytmbecaiieibcjaa
