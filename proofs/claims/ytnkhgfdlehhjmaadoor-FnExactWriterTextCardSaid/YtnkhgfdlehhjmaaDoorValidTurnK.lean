/-
  ValidTurner of the program: what it answers.
-/
import Derived.Test.YtnkhgfdlehhjmaaDoorMoveOkK
import Derived.Test.YtnkhgfdlehhjmaaDoorSizesK
import Derived.Test.YtnkhgfdlehhjmaaDoorRangeAllK
import Derived.Test.YtnkhgfdlehhjmaaDoorLMoveSK
namespace Go.Proofs.YtnkhgfdlehhjmaaDoor
open Go.RowKit

/-- A row of a turner's table is right: its length, and each of its moves. -/
def mrowOk (row : List Move) (n letters : Int) : Bool :=
  decide ((row.length : Int) = letters + 2) && (List.range row.length).all fun k => moveOk (row[k]?.getD default) n letters (k : Int)

def validTurn (p : Turner) : Bool :=
  within p.letters 1 3 && (within p.moves.length 1 12 && (within p.start 0 (p.moves.length - 1) && p.moves.all fun row => mrowOk row p.moves.length p.letters))

section
variable (cs : List Value) (p : Turner) (B : Nat) (w : World) (hB0 : B ≤ w.heap.size) (h : turnE.rd w B cs p)
include hB0 h

set_option maxHeartbeats 1000000 in
theorem validTurn_no1 (h1 : within p.letters 1 3 = false) : Calls Tryd.prog 45 #[.agg cs.toArray] w (Gives (.bool false) w) := by
  obtain ⟨v2, rfl, -, -, hh2⟩ := rd_Turner h
  obtain ⟨a, cap, rfl, a1, a2, -, a4⟩ := rd_slice1 rfl hh2
  obtain ⟨n, hn⟩ : ∃ n, n = p.moves.length := ⟨_, rfl⟩
  have HN : Hid (n = p.moves.length) := Lib.hid hn
  rw [← hn] at a1 a4 hh2 ⊢
  have H2 := Lib.hid hh2
  have T1 := Lib.hid h1
  clear h hh2 hn a4 h1
  go_enter Tryd.func45, Tryd.ntmps45
  go_wp2_with fail
  generalize hW : w.alloc _ = w0
  obtain ⟨A0, hB⟩ := blk1 hW
  clear hW
  refine (size_movess _ p.moves B _ (movessE.rd_of (hB.mono hB0) H2.out)).mono ?_
  rintro e w1 ⟨rfl, b⟩
  rw [← HN.out]
  have A0 := A0.of b A0.lt
  have c0 := A0.cell 0 rfl
  have c1 := A0.cell 1 rfl
  have c2 := A0.cell 2 rfl
  have HB := Lib.hid (hB.trans (b.mono hB.size))
  have HA := Lib.hid A0
  clear A0 hB b
  go_wp2_with fail
  refine (isAlphabet_is false _ _ T1.out).mono ?_
  rintro e w2 ⟨rfl, b⟩
  have HB := Lib.hid (HB.out.trans (b.mono HB.out.size))
  have HA := Lib.hid (HA.out.of b HA.out.lt)
  have c0 := HA.out.cell 0 rfl
  have c1 := HA.out.cell 1 rfl
  have c2 := HA.out.cell 2 rfl
  clear b
  go_wp2
  go_ret
  exact ⟨rfl, HB.out⟩

set_option maxHeartbeats 1000000 in
theorem validTurn_no2 (h1 : within p.letters 1 3 = true) (h2 : within p.moves.length 1 12 = false) : Calls Tryd.prog 45 #[.agg cs.toArray] w (Gives (.bool false) w) := by
  obtain ⟨v2, rfl, -, -, hh2⟩ := rd_Turner h
  obtain ⟨a, cap, rfl, a1, a2, -, a4⟩ := rd_slice1 rfl hh2
  obtain ⟨n, hn⟩ : ∃ n, n = p.moves.length := ⟨_, rfl⟩
  have HN : Hid (n = p.moves.length) := Lib.hid hn
  rw [← hn] at a1 a4 h2 hh2 ⊢
  have H2 := Lib.hid hh2
  have T1 := Lib.hid h1
  have T2 := Lib.hid h2
  clear h hh2 hn a4 h1 h2
  go_enter Tryd.func45, Tryd.ntmps45
  go_wp2_with fail
  generalize hW : w.alloc _ = w0
  obtain ⟨A0, hB⟩ := blk1 hW
  clear hW
  refine (size_movess _ p.moves B _ (movessE.rd_of (hB.mono hB0) H2.out)).mono ?_
  rintro e w1 ⟨rfl, b⟩
  rw [← HN.out]
  have A0 := A0.of b A0.lt
  have c0 := A0.cell 0 rfl
  have c1 := A0.cell 1 rfl
  have c2 := A0.cell 2 rfl
  have HB := Lib.hid (hB.trans (b.mono hB.size))
  have HA := Lib.hid A0
  clear A0 hB b
  go_wp2_with fail
  refine (isAlphabet_is true _ _ T1.out).mono ?_
  rintro e w2 ⟨rfl, b⟩
  have HB := Lib.hid (HB.out.trans (b.mono HB.out.size))
  have HA := Lib.hid (HA.out.of b HA.out.lt)
  have c0 := HA.out.cell 0 rfl
  have c1 := HA.out.cell 1 rfl
  have c2 := HA.out.cell 2 rfl
  clear b
  go_wp2_with fail
  refine (within_kis false _ _ _ _ T2.out).mono ?_
  rintro e w3 ⟨rfl, rfl⟩
  go_wp2
  go_ret
  exact ⟨rfl, HB.out⟩

set_option maxHeartbeats 1000000 in
theorem validTurn_no3 (h1 : within p.letters 1 3 = true) (h2 : within p.moves.length 1 12 = true) (h3 : within p.start 0 (p.moves.length - 1) = false) : Calls Tryd.prog 45 #[.agg cs.toArray] w (Gives (.bool false) w) := by
  obtain ⟨v2, rfl, -, -, hh2⟩ := rd_Turner h
  obtain ⟨a, cap, rfl, a1, a2, -, a4⟩ := rd_slice1 rfl hh2
  obtain ⟨n, hn⟩ : ∃ n, n = p.moves.length := ⟨_, rfl⟩
  have HN : Hid (n = p.moves.length) := Lib.hid hn
  rw [← hn] at a1 a4 h2 h3 hh2 ⊢
  have H2 := Lib.hid hh2
  have T1 := Lib.hid h1
  have T2 := Lib.hid h2
  have hn1 := (within_true.1 h2)
  have T3 := Lib.hid h3
  have hw : IntKind.i64.wrap ((n : Int) - 1) = (n : Int) - 1 := IntWalk.i64_in _ ⟨by omega, by omega⟩
  clear hn1
  clear h hh2 hn a4 h1 h2 h3
  go_enter Tryd.func45, Tryd.ntmps45
  go_wp2_with fail
  generalize hW : w.alloc _ = w0
  obtain ⟨A0, hB⟩ := blk1 hW
  clear hW
  refine (size_movess _ p.moves B _ (movessE.rd_of (hB.mono hB0) H2.out)).mono ?_
  rintro e w1 ⟨rfl, b⟩
  rw [← HN.out]
  have A0 := A0.of b A0.lt
  have c0 := A0.cell 0 rfl
  have c1 := A0.cell 1 rfl
  have c2 := A0.cell 2 rfl
  have HB := Lib.hid (hB.trans (b.mono hB.size))
  have HA := Lib.hid A0
  clear A0 hB b
  go_wp2_with fail
  refine (isAlphabet_is true _ _ T1.out).mono ?_
  rintro e w2 ⟨rfl, b⟩
  have HB := Lib.hid (HB.out.trans (b.mono HB.out.size))
  have HA := Lib.hid (HA.out.of b HA.out.lt)
  have c0 := HA.out.cell 0 rfl
  have c1 := HA.out.cell 1 rfl
  have c2 := HA.out.cell 2 rfl
  clear b
  go_wp2_with fail
  refine (within_kis true _ _ _ _ T2.out).mono ?_
  rintro e w3 ⟨rfl, rfl⟩
  go_wp2_with fail
  refine (within_kis false _ _ _ _ T3.out).mono ?_
  rintro e w4 ⟨rfl, rfl⟩
  go_wp2
  go_ret
  exact ⟨rfl, HB.out⟩

set_option maxHeartbeats 1000000 in
theorem validTurn_yes (h1 : within p.letters 1 3 = true) (h2 : within p.moves.length 1 12 = true) (h3 : within p.start 0 (p.moves.length - 1) = true) : Calls Tryd.prog 45 #[.agg cs.toArray] w (Gives (.bool (p.moves.all fun row => mrowOk row p.moves.length p.letters)) w) := by
  obtain ⟨v2, rfl, -, -, hh2⟩ := rd_Turner h
  obtain ⟨a, cap, rfl, a1, a2, -, a4⟩ := rd_slice1 rfl hh2
  obtain ⟨n, hn⟩ : ∃ n, n = p.moves.length := ⟨_, rfl⟩
  have HN : Hid (n = p.moves.length) := Lib.hid hn
  rw [← hn] at a1 a4 h2 h3 hh2 ⊢
  have H2 := Lib.hid hh2
  have T1 := Lib.hid h1
  have T2 := Lib.hid h2
  have hn1 := (within_true.1 h2)
  have T3 := Lib.hid h3
  have hw : IntKind.i64.wrap ((n : Int) - 1) = (n : Int) - 1 := IntWalk.i64_in _ ⟨by omega, by omega⟩
  have hl1 := within_true.1 h1
  have A4 := Lib.hid a4
  clear h hh2 hn a4 h1 h2 h3
  go_enter Tryd.func45, Tryd.ntmps45
  go_wp2_with fail
  generalize hW : w.alloc _ = w0
  obtain ⟨A0, hB⟩ := blk1 hW
  clear hW
  refine (size_movess _ p.moves B _ (movessE.rd_of (hB.mono hB0) H2.out)).mono ?_
  rintro e w1 ⟨rfl, b⟩
  rw [← HN.out]
  have A0 := A0.of b A0.lt
  have c0 := A0.cell 0 rfl
  have c1 := A0.cell 1 rfl
  have c2 := A0.cell 2 rfl
  have HB := Lib.hid (hB.trans (b.mono hB.size))
  have HA := Lib.hid A0
  clear A0 hB b
  go_wp2_with fail
  refine (isAlphabet_is true _ _ T1.out).mono ?_
  rintro e w2 ⟨rfl, b⟩
  have HB := Lib.hid (HB.out.trans (b.mono HB.out.size))
  have HA := Lib.hid (HA.out.of b HA.out.lt)
  have c0 := HA.out.cell 0 rfl
  have c1 := HA.out.cell 1 rfl
  have c2 := HA.out.cell 2 rfl
  clear b
  go_wp2_with fail
  refine (within_kis true _ _ _ _ T2.out).mono ?_
  rintro e w3 ⟨rfl, rfl⟩
  go_wp2_with fail
  refine (within_kis true _ _ _ _ T3.out).mono ?_
  rintro e w4 ⟨rfl, rfl⟩
  go_wp2
  clear c0 c1
  go_loopw [31] (fun i wr => ∃ k : Nat, k ≤ n ∧ i = .int .i64 k ∧ Below w.heap.size w wr ∧ Blk wr w.heap.size [.int .i64 p.letters, .int .i64 p.start, .slice a n cap] 32 ∧ Hid (∀ i, i < k → mrowOk (p.moves[i]?.getD default) n p.letters = true)) (fun i _ => n - (intOf i).toNat)
  case atStart => exact ⟨0, by omega, rfl, HB.out, HA.out, Lib.hid (fun i hi => absurd hi (by omega))⟩
  case round =>
    obtain ⟨k, hk, rfl, hB, hA, HE⟩ := hrel
    by_cases hlt : k < n
    case neg =>
      obtain rfl : k = n := by omega
      go_wp2
      go_ret
      have : (p.moves.all fun row => mrowOk row (k : Int) p.letters) = true := all_of_idx default _ _ (fun i hi => HE.out i (by rw [HN.out]; exact hi))
      exact ⟨by rw [this]; rfl, hB⟩
    obtain ⟨b, o, vk, rfl, -, hc, hr⟩ := A4.out k hlt
    have g1 := (hB.cell (World.block_lt_of_cell? w _ hc)).trans hc
    have R := Lib.hid (movesE.rd_of (hB.mono hB0) hr)
    have R0 := Lib.hid hr; clear hr hc
    obtain ⟨row, hrow⟩ : ∃ x, x = p.moves[k]?.getD default := ⟨_, rfl⟩
    rw [← hrow] at R R0
    have HROW := Lib.hid hrow; clear hrow
    obtain ⟨ra, rcap, rfl, r1, r2, -, r4⟩ := rd_movesE R0.out
    clear R0
    have R4 := Lib.hid r4; clear r4
    have c0 := hA.cell 0 rfl
    have hA' := Lib.hid hA; have la := hA.lt; clear hA
    have HBr := Lib.hid hB; clear hB
    have hwl1 : IntKind.i64.wrap (p.letters + 2) = p.letters + 2 := IntWalk.i64_in _ ⟨by omega, by omega⟩
    have hov := cell_over wr
    by_cases hlen : (row.length : Int) = p.letters + 2
    case neg =>
      have hb : ((row.length : Int) != p.letters + 2) = true := by simpa using hlen
      have hno := Lib.hid (show mrowOk row n p.letters = false by unfold mrowOk; rw [decide_eq_false hlen]; rfl)
      clear hlen
      go_wp2
      refine wp_region_over (by kernel_rfl) (by kernel_rfl) ?_
      repeat (go_big_quiet_step ((go_at_call 75; exact calls_over (size_moves _ row _ _ (movesE.rd_of ((below_over wr _).mono (Nat.le_trans hB0 HBr.out.size)) R.out)))))
      refine wpQuiet_nil ?_
      intro w5 hw5
      go_wp2
      go_ret
      have : (p.moves.all fun row => mrowOk row (n : Int) p.letters) = false := all_not_idx default _ _ k (by rw [← HN.out]; exact hlt) (by rw [← HROW.out]; exact hno.out)
      exact ⟨by rw [this]; rfl, HBr.out.trans (hw5.mono HBr.out.size)⟩
    have hb : ((row.length : Int) != p.letters + 2) = false := by simpa using hlen
    have Hlen := Lib.hid hlen; clear hlen
    go_wp2
    refine wp_region_over (by kernel_rfl) (by kernel_rfl) ?_
    repeat (go_big_quiet_step ((go_at_call 75; exact calls_over (size_moves _ row _ _ (movesE.rd_of ((below_over wr _).mono (Nat.le_trans hB0 HBr.out.size)) R.out)))))
    refine wpQuiet_nil ?_
    intro w5 hw5
    go_wp2
    have hA5 := Lib.hid (hA'.out.of hw5 la)
    have hB5 := Lib.hid (HBr.out.trans (hw5.mono HBr.out.size))
    clear hw5 hov c0 g1
    have hrl : row.length ≤ 5 := by have := Hlen.out; omega
    have hrl' : 2 ≤ row.length := by have := Hlen.out; omega
    obtain ⟨m, hm⟩ : ∃ m, m = row.length := ⟨_, rfl⟩
    rw [← hm] at hrl hrl' R4 ⊢
    have HM := Lib.hid hm; clear hm
    go_loopw [43] (fun i wr => ∃ c : Nat, c ≤ m ∧ i = .int .i64 c ∧ Below w.heap.size w wr ∧ Blk wr w.heap.size [.int .i64 p.letters, .int .i64 p.start, .slice (some ⟨b, o, none⟩) n cap] 32 ∧ Hid (∀ i, i < c → moveOk (row[i]?.getD default) n p.letters (i : Int) = true)) (fun i _ => m - (intOf i).toNat)
    case atStart => exact ⟨0, by omega, rfl, hB5.out, hA5.out, Lib.hid (fun i hi => absurd hi (by omega))⟩
    case round =>
      obtain ⟨c, hc, rfl, hB, hA, HC⟩ := hrel
      by_cases hcm : c < m
      case neg =>
        obtain rfl : c = m := by omega
        have hyes : Hid (mrowOk row n p.letters = true) := Lib.hid (by unfold mrowOk; rw [decide_eq_true Hlen.out, Bool.true_and]; exact range_all (fun i hi => HC.out i (by rw [HM.out]; exact hi)))
        go_wp2
        go_roundw
        case rel => exact ⟨k + 1, by omega, by go_num, hB, hA, Lib.hid (fun i hi => by by_cases h : i = k; (subst h; rw [← HROW.out]; exact hyes.out); exact HE.out i (by omega))⟩
        case measure => simp [intOf]; omega
      obtain ⟨s, t, rfl, -, ⟨hp0, hp1⟩, -⟩ := R4.out c hcm
      have l0 := World.block_lt_of_cell? w _ hp0
      have p0 := fun o => ((hB.alloc hB.size o).cell l0).trans hp0
      have q0 := (hB.cell l0).trans hp0
      have q1 := (hB.cell (World.block_lt_of_cell? w _ hp1)).trans hp1
      clear hp0 hp1 l0 p0
      have d0 := fun o => (hA.alloc o).cell 0 rfl
      have HA5 := Lib.hid hA; clear hA
      have HB5 := Lib.hid hB; clear hB
      generalize hmv : row[c]?.getD default = mv at *
      have HMV := Lib.hid hmv; clear hmv
      cases hok : moveOk mv n p.letters (c : Int)
      case false =>
        have HOK := Lib.hid hok; clear hok
        go_wp2_with fail
        refine (isMove_is false mv _ _ _ _ ⟨by omega, by omega⟩ ⟨by omega, by omega⟩ HOK.out).mono ?_
        rintro e w6 ⟨rfl, b6⟩
        have b6 := ((Below.refl _ wr).alloc (Nat.le_refl _) _).trans (b6.mono (by simp))
        have HB6 := Lib.hid (HB5.out.trans (b6.mono HB5.out.size))
        clear b6
        have hno : Hid (mrowOk row n p.letters = false) := Lib.hid (by unfold mrowOk; rw [decide_eq_true Hlen.out, Bool.true_and]; exact range_not (by rw [← HM.out]; exact hcm) (by rw [HMV.out]; exact HOK.out))
        go_wp2
        go_ret
        have : (p.moves.all fun row => mrowOk row (n : Int) p.letters) = false := all_not_idx default _ _ k (by rw [← HN.out]; exact hlt) (by rw [← HROW.out]; exact hno.out)
        exact ⟨by rw [this]; rfl, HB6.out⟩
      have HOK := Lib.hid hok; clear hok
      go_wp2_with fail
      refine (isMove_is true mv _ _ _ _ ⟨by omega, by omega⟩ ⟨by omega, by omega⟩ HOK.out).mono ?_
      rintro e w6 ⟨rfl, b6⟩
      have b6 := ((Below.refl _ wr).alloc (Nat.le_refl _) _).trans (b6.mono (by simp))
      have HB6 := Lib.hid (HB5.out.trans (b6.mono HB5.out.size))
      have HA6 := Lib.hid (HA5.out.of b6 HA5.out.lt)
      clear b6
      go_wp2
      go_roundw
      case rel => exact ⟨c + 1, by omega, by go_num, HB6.out, HA6.out, Lib.hid (fun i hi => by by_cases h : i = c; (subst h; rw [HMV.out]; exact HOK.out); exact HC.out i (by omega))⟩
      case measure => simp [intOf]; omega

end

theorem validTurn_any (cs : List Value) (p : Turner) (B : Nat) (w : World) (hB0 : B ≤ w.heap.size) (h : turnE.rd w B cs p) :
    Calls Tryd.prog 45 #[.agg cs.toArray] w (Gives (.bool (validTurn p)) w) := by
  unfold validTurn
  cases h1 : within p.letters 1 3 with
  | false => rw [Bool.false_and]; exact validTurn_no1 cs p B w hB0 h h1
  | true =>
    rw [Bool.true_and]
    cases h2 : within p.moves.length 1 12 with
    | false => rw [Bool.false_and]; exact validTurn_no2 cs p B w hB0 h h1 h2
    | true =>
      rw [Bool.true_and]
      cases h3 : within p.start 0 (p.moves.length - 1) with
      | false => rw [Bool.false_and]; exact validTurn_no3 cs p B w hB0 h h1 h2 h3
      | true => rw [Bool.true_and]; exact validTurn_yes cs p B w hB0 h h1 h2 h3

end Go.Proofs.YtnkhgfdlehhjmaaDoor
