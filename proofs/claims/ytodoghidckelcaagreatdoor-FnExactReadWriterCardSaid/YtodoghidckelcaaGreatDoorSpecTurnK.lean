/-
  ValidTurner of the specification: what it answers.
-/
import Derived.Test.YtodoghidckelcaaGreatDoorPackB
namespace Go.Proofs.YtodoghidckelcaaGreatDoor
open Go.RowKit

/-- What lies at a block's first cells. -/
structure Hd (w : World) (g : Nat) (cs : List Value) : Prop where
  lt : g < w.heap.size
  cell : ∀ (i : Nat) {v : Value}, cs[i]? = some v → w.cell? ⟨g, i, none⟩ = some v
theorem Hd.of {w w' : World} {g B : Nat} {cs : List Value} (h : Hd w g cs) (hb : Below B w w') (hB : g < B) : Hd w' g cs :=
  ⟨Nat.lt_of_lt_of_le h.lt hb.size, fun i v hv => by rw [hb.cell (p := ⟨g, i, none⟩) hB]; exact h.cell i hv⟩
theorem Hd.left {w : World} {g : Nat} {c1 c2 : List Value} (h : Hd w g (c1 ++ c2)) : Hd w g c1 :=
  ⟨h.lt, fun i v hv => h.cell i (by rw [List.getElem?_append_left (List.getElem?_eq_some_iff.1 hv).1]; exact hv)⟩
theorem Blk.hd {w : World} {g : Nat} {cs : List Value} {ty : TypeId} (h : Blk w g cs ty) : Hd w g cs := ⟨h.lt, fun i _ hv => h.cell i hv⟩

section
variable (v2 : Value) (p : Turner) (B g : Nat) (w : World) (hA0 : Hd w g [.int .i64 p.letters, .int .i64 p.start, v2]) (hh2 : movessE.rd w B [v2] p.moves)
include hA0 hh2

set_option maxHeartbeats 1000000 in
theorem l02Ok_no1 (h1 : within p.letters 1 3 = false) : Calls Tryz.prog 26 #[.pointer (some ⟨g, 0, none⟩)] w (Gives (.bool false) w) := by
  obtain ⟨a, cap, rfl, a1, a2, -, a4⟩ := rd_slice1 rfl hh2
  obtain ⟨n, hn⟩ : ∃ n, n = p.moves.length := ⟨_, rfl⟩
  have HN : Hid (n = p.moves.length) := Lib.hid hn
  rw [← hn] at hA0 hh2 a1 a4
  try rw [← hn]
  have T1 := Lib.hid h1
  have HA := Lib.hid hA0
  have c0 := hA0.cell 0 rfl
  have c1 := hA0.cell 1 rfl
  have c2 := hA0.cell 2 rfl
  have A4 := Lib.hid a4
  clear hh2 hn a4 hA0 h1
  go_enter Tryz.func26, Tryz.ntmps26
  go_wp2_with fail
  refine (l00In_is false _ _ _ _ T1.out).mono ?_
  rintro e w1 ⟨rfl, rfl⟩
  go_wp2
  go_ret
  exact ⟨rfl, Below.refl _ _⟩

set_option maxHeartbeats 1000000 in
theorem l02Ok_no2 (h1 : within p.letters 1 3 = true) (h2 : within p.moves.length 1 12 = false) : Calls Tryz.prog 26 #[.pointer (some ⟨g, 0, none⟩)] w (Gives (.bool false) w) := by
  obtain ⟨a, cap, rfl, a1, a2, -, a4⟩ := rd_slice1 rfl hh2
  obtain ⟨n, hn⟩ : ∃ n, n = p.moves.length := ⟨_, rfl⟩
  have HN : Hid (n = p.moves.length) := Lib.hid hn
  rw [← hn] at hA0 hh2 a1 a4 h2
  try rw [← hn]
  have T1 := Lib.hid h1
  have T2 := Lib.hid h2
  have HA := Lib.hid hA0
  have c0 := hA0.cell 0 rfl
  have c1 := hA0.cell 1 rfl
  have c2 := hA0.cell 2 rfl
  have A4 := Lib.hid a4
  clear hh2 hn a4 hA0 h1 h2
  go_enter Tryz.func26, Tryz.ntmps26
  go_wp2_with fail
  refine (l00In_is true _ _ _ _ T1.out).mono ?_
  rintro e w1 ⟨rfl, rfl⟩
  go_wp2_with fail
  refine (l00In_is false _ _ _ _ T2.out).mono ?_
  rintro e w3 ⟨rfl, rfl⟩
  go_wp2
  go_ret
  exact ⟨rfl, Below.refl _ _⟩

set_option maxHeartbeats 1000000 in
theorem l02Ok_no3 (h1 : within p.letters 1 3 = true) (h2 : within p.moves.length 1 12 = true) (h3 : within p.start 0 (p.moves.length - 1) = false) : Calls Tryz.prog 26 #[.pointer (some ⟨g, 0, none⟩)] w (Gives (.bool false) w) := by
  obtain ⟨a, cap, rfl, a1, a2, -, a4⟩ := rd_slice1 rfl hh2
  obtain ⟨n, hn⟩ : ∃ n, n = p.moves.length := ⟨_, rfl⟩
  have HN : Hid (n = p.moves.length) := Lib.hid hn
  rw [← hn] at hA0 hh2 a1 a4 h2 h3
  try rw [← hn]
  have T1 := Lib.hid h1
  have hn1 := within_true.1 h2
  have T2 := Lib.hid h2
  have T3 := Lib.hid h3
  have hw : IntKind.i64.wrap ((n : Int) - 1) = (n : Int) - 1 := IntWalk.i64_in _ ⟨by omega, by omega⟩
  have hl1 := within_true.1 h1
  have HA := Lib.hid hA0
  have c0 := hA0.cell 0 rfl
  have c1 := hA0.cell 1 rfl
  have c2 := hA0.cell 2 rfl
  have A4 := Lib.hid a4
  clear hh2 hn a4 hA0 h1 h2 h3
  go_enter Tryz.func26, Tryz.ntmps26
  go_wp2_with fail
  refine (l00In_is true _ _ _ _ T1.out).mono ?_
  rintro e w1 ⟨rfl, rfl⟩
  go_wp2_with fail
  refine (l00In_is true _ _ _ _ T2.out).mono ?_
  rintro e w3 ⟨rfl, rfl⟩
  go_wp2_with fail
  refine (l00In_is false _ _ _ _ T3.out).mono ?_
  rintro e w4 ⟨rfl, rfl⟩
  go_wp2
  go_ret
  exact ⟨rfl, Below.refl _ _⟩

set_option maxHeartbeats 1000000 in
theorem l02Ok_yes (h1 : within p.letters 1 3 = true) (h2 : within p.moves.length 1 12 = true) (h3 : within p.start 0 (p.moves.length - 1) = true) : Calls Tryz.prog 26 #[.pointer (some ⟨g, 0, none⟩)] w (Gives (.bool (p.moves.all fun row => mrowOk row p.moves.length p.letters)) w) := by
  obtain ⟨a, cap, rfl, a1, a2, -, a4⟩ := rd_slice1 rfl hh2
  obtain ⟨n, hn⟩ : ∃ n, n = p.moves.length := ⟨_, rfl⟩
  have HN : Hid (n = p.moves.length) := Lib.hid hn
  rw [← hn] at hA0 hh2 a1 a4 h2 h3
  try rw [← hn]
  have T1 := Lib.hid h1
  have hn1 := within_true.1 h2
  have T2 := Lib.hid h2
  have T3 := Lib.hid h3
  have hw : IntKind.i64.wrap ((n : Int) - 1) = (n : Int) - 1 := IntWalk.i64_in _ ⟨by omega, by omega⟩
  have hl1 := within_true.1 h1
  have HA := Lib.hid hA0
  have c0 := hA0.cell 0 rfl
  have c1 := hA0.cell 1 rfl
  have c2 := hA0.cell 2 rfl
  have A4 := Lib.hid a4
  clear hh2 hn a4 hA0 h1 h2 h3
  go_enter Tryz.func26, Tryz.ntmps26
  go_wp2_with fail
  refine (l00In_is true _ _ _ _ T1.out).mono ?_
  rintro e w1 ⟨rfl, rfl⟩
  go_wp2_with fail
  refine (l00In_is true _ _ _ _ T2.out).mono ?_
  rintro e w3 ⟨rfl, rfl⟩
  go_wp2_with fail
  refine (l00In_is true _ _ _ _ T3.out).mono ?_
  rintro e w4 ⟨rfl, rfl⟩
  go_wp2
  clear c0 c1 c2
  have hwl1 : IntKind.i64.wrap (p.letters + 2) = p.letters + 2 := IntWalk.i64_in _ ⟨by omega, by omega⟩
  go_loopw [4] (fun i wr => ∃ k : Nat, k ≤ n ∧ i = .int .i64 k ∧ Below w.heap.size w wr ∧ Hid (∀ i, i < k → mrowOk (p.moves[i]?.getD default) n p.letters = true)) (fun i _ => n - (intOf i).toNat)
  case atStart => exact ⟨0, by omega, rfl, Below.refl _ _, Lib.hid (fun i hi => absurd hi (by omega))⟩
  case round =>
    obtain ⟨k, hk, rfl, hB, HE⟩ := hrel
    have hA0 := HA.out.of hB HA.out.lt
    have c2z := hA0.cell 2 rfl
    clear hA0
    by_cases hlt : k < n
    case neg =>
      obtain rfl : k = n := by omega
      go_wp2
      go_ret
      have : (p.moves.all fun row => mrowOk row (k : Int) p.letters) = true := all_of_idx default _ _ (fun i hi => HE.out i (by rw [HN.out]; exact hi))
      exact ⟨by rw [this]; rfl, hB⟩
    obtain ⟨b, o, vk, rfl, -, hc, hr⟩ := A4.out k hlt
    have g1 := (hB.cell (World.block_lt_of_cell? w _ hc)).trans hc
    have HG := Lib.hid hc
    have R0 := Lib.hid hr; clear hr hc
    obtain ⟨row, hrow⟩ : ∃ x, x = p.moves[k]?.getD default := ⟨_, rfl⟩
    rw [← hrow] at R0
    have HROW := Lib.hid hrow; clear hrow
    obtain ⟨ra, rcap, rfl, r1, r2, -, r4⟩ := rd_movesE R0.out
    clear R0
    have R4 := Lib.hid r4; clear r4
    have hA := HA.out.of hB HA.out.lt
    have c0 := hA.cell 0 rfl
    have c2 := hA.cell 2 rfl
    have lA := hA.lt
    clear hA
    have HBr := Lib.hid hB; clear hB
    by_cases hlen : (row.length : Int) = p.letters + 2
    case neg =>
      have hb : ((row.length : Int) != p.letters + 2) = true := by simpa using hlen
      have hno := Lib.hid (show mrowOk row n p.letters = false by unfold mrowOk; rw [decide_eq_false hlen]; rfl)
      clear hlen
      go_wp2
      go_quiet (fail)
      go_wp2
      go_ret
      have : (p.moves.all fun row => mrowOk row (n : Int) p.letters) = false := all_not_idx default _ _ k (by rw [← HN.out]; exact hlt) (by rw [← HROW.out]; exact hno.out)
      exact ⟨by rw [this]; rfl, below_drewN HBr.out _⟩
    have hb : ((row.length : Int) != p.letters + 2) = false := by simpa using hlen
    have Hlen := Lib.hid hlen
    have hrl : row.length ≤ 5 := by omega
    have hrl' : 2 ≤ row.length := by omega
    go_wp2
    go_quiet (fail)
    go_wp2
    clear c0 c2 lA hb g1
    obtain ⟨m, hm⟩ : ∃ m, m = row.length := ⟨_, rfl⟩
    rw [← hm] at hrl hrl' R4 hlen HG r1 ⊢
    have HM := Lib.hid hm; clear hm
    go_loopw [5] (fun i wr => ∃ c : Nat, c ≤ m ∧ i = .int .i64 c ∧ Below w.heap.size w wr ∧ Hid (∀ i, i < c → moveOk (row[i]?.getD default) n p.letters (i : Int) = true)) (fun i _ => m - (intOf i).toNat)
    case atStart => exact ⟨0, by omega, rfl, below_drewN HBr.out _, Lib.hid (fun i hi => absurd hi (by omega))⟩
    case round =>
      obtain ⟨c, hc, rfl, hB, HC⟩ := hrel
      have hA := HA.out.of hB HA.out.lt
      have c0 := hA.cell 0 rfl
      have c2 := hA.cell 2 rfl
      have lA := hA.lt
      clear hA
      by_cases hcm : c < m
      case neg =>
        obtain rfl : c = m := by omega
        have hyes : Hid (mrowOk row n p.letters = true) := Lib.hid (by unfold mrowOk; rw [decide_eq_true Hlen.out, Bool.true_and]; exact range_all (fun i hi => HC.out i (by rw [HM.out]; exact hi)))
        have hcl : ¬ ((c : Int) < p.letters + 2) := by omega
        clear hlen
        go_wp2
        go_roundw
        case rel => exact ⟨k + 1, by omega, by go_num, hB, Lib.hid (fun i hi => by by_cases h : i = k; (subst h; rw [← HROW.out]; exact hyes.out); exact HE.out i (by omega))⟩
        case measure => simp [intOf]; omega
      have hcl : ((c : Int) < p.letters + 2) := by omega
      have Hlen2 := Lib.hid hlen; clear hlen
      obtain ⟨s, t, rfl, -, ⟨hp0, hp1⟩, -⟩ := R4.out c hcm
      have q0 := (hB.cell (World.block_lt_of_cell? w _ hp0)).trans hp0
      have q1 := (hB.cell (World.block_lt_of_cell? w _ hp1)).trans hp1
      have g1 := (hB.cell (World.block_lt_of_cell? w _ HG.out)).trans HG.out
      clear hp0 hp1
      have HB5 := Lib.hid hB; clear hB
      generalize hmv : row[c]?.getD default = mv at *
      have HMV := Lib.hid hmv; clear hmv
      have hov := cell_over wr
      have l1 : b < wr.heap.size := World.block_lt_of_cell? wr _ g1
      have l2 : s < wr.heap.size := World.block_lt_of_cell? wr _ q0
      cases hok : moveOk mv n p.letters (c : Int)
      case false =>
        have HOK := Lib.hid hok; clear hok
        go_wp2
        refine wp_region_over (by kernel_rfl) (by kernel_rfl) ?_
        repeat (go_big_quiet_step ((go_at_call 49; exact calls_over (l02Move_is false mv _ _ _ _ ⟨by omega, by omega⟩ ⟨by omega, by omega⟩ HOK.out))))
        refine wpQuiet_nil ?_
        intro w5 hw5
        have HB6 := Lib.hid (HB5.out.trans (hw5.mono HB5.out.size))
        clear hw5
        have hno : Hid (mrowOk row n p.letters = false) := Lib.hid (by unfold mrowOk; rw [decide_eq_true Hlen.out, Bool.true_and]; exact range_not (by rw [← HM.out]; exact hcm) (by rw [HMV.out]; exact HOK.out))
        go_wp2
        go_ret
        have : (p.moves.all fun row => mrowOk row (n : Int) p.letters) = false := all_not_idx default _ _ k (by rw [← HN.out]; exact hlt) (by rw [← HROW.out]; exact hno.out)
        exact ⟨by rw [this]; rfl, HB6.out⟩
      have HOK := Lib.hid hok; clear hok
      go_wp2
      refine wp_region_over (by kernel_rfl) (by kernel_rfl) ?_
      repeat (go_big_quiet_step ((go_at_call 49; exact calls_over (l02Move_is true mv _ _ _ _ ⟨by omega, by omega⟩ ⟨by omega, by omega⟩ HOK.out))))
      refine wpQuiet_nil ?_
      intro w5 hw5
      have HB6 := Lib.hid (HB5.out.trans (hw5.mono HB5.out.size))
      clear hw5
      go_wp2
      go_roundw
      case rel => exact ⟨c + 1, by omega, by go_num, HB6.out, Lib.hid (fun i hi => by by_cases h : i = c; (subst h; rw [HMV.out]; exact HOK.out); exact HC.out i (by omega))⟩
      case measure => simp [intOf]; omega

end

theorem l02Ok_any (v2 : Value) (p : Turner) (B g : Nat) (w : World) (hA0 : Hd w g [.int .i64 p.letters, .int .i64 p.start, v2]) (hh2 : movessE.rd w B [v2] p.moves) :
    Calls Tryz.prog 26 #[.pointer (some ⟨g, 0, none⟩)] w (Gives (.bool (validTurn p)) w) := by
  unfold validTurn
  cases h1 : within p.letters 1 3 with
  | false => rw [Bool.false_and]; exact l02Ok_no1 v2 p B g w hA0 hh2 h1
  | true =>
    rw [Bool.true_and]
    cases h2 : within p.moves.length 1 12 with
    | false => rw [Bool.false_and]; exact l02Ok_no2 v2 p B g w hA0 hh2 h1 h2
    | true =>
      rw [Bool.true_and]
      cases h3 : within p.start 0 (p.moves.length - 1) with
      | false => rw [Bool.false_and]; exact l02Ok_no3 v2 p B g w hA0 hh2 h1 h2 h3
      | true => rw [Bool.true_and]; exact l02Ok_yes v2 p B g w hA0 hh2 h1 h2 h3

end Go.Proofs.YtodoghidckelcaaGreatDoor
