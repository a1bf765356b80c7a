/-
  SameTurner of the reference (written by a program of this claim's own, gen_specsame.py).
-/
import Derived.Laws.StructEq
import Derived.Test.YtfamhnogpcmbmaaGreatDoorEqMovesK
import Derived.Test.YtfamhnogpcmbmaaGreatDoorPackA
namespace Go.Proofs.YtfamhnogpcmbmaaGreatDoor
open Go.RowKit

set_option maxHeartbeats 400000 in
theorem specSameTurn_0 (cs ds : List Value) (p q : Turner) (B B' : Nat) (w : World) (hr : turnE.rd w B cs p) (hs : turnE.rd w B' ds q) (x0 : ¬ p.letters = q.letters) :
    Calls Tryz.prog 25 #[.agg cs.toArray, .agg ds.toArray] w (Gives (.bool false) w) := by
  obtain ⟨v2, rfl, -, -, h2⟩ := rd_Turner hr
  obtain ⟨u2, rfl, -, -, k2⟩ := rd_Turner hs
  clear hr hs
  have b0 : (p.letters != q.letters) = true := by simp [x0]
  clear x0
  go_enter Tryz.func25, Tryz.ntmps25
  go_wp2
  go_ret
  exact ⟨rfl, ((Below.refl _ _).alloc (Nat.le_refl _) _).alloc (by simp) _⟩

set_option maxHeartbeats 400000 in
theorem specSameTurn_1 (cs ds : List Value) (p q : Turner) (B B' : Nat) (w : World) (hr : turnE.rd w B cs p) (hs : turnE.rd w B' ds q) (x0 : p.letters = q.letters) (x1 : ¬ p.start = q.start) :
    Calls Tryz.prog 25 #[.agg cs.toArray, .agg ds.toArray] w (Gives (.bool false) w) := by
  obtain ⟨v2, rfl, -, -, h2⟩ := rd_Turner hr
  obtain ⟨u2, rfl, -, -, k2⟩ := rd_Turner hs
  clear hr hs
  have b0 : (p.letters != q.letters) = false := by simp [x0]
  have b1 : (p.start != q.start) = true := by simp [x1]
  clear x0 x1
  go_enter Tryz.func25, Tryz.ntmps25
  go_wp2
  go_ret
  exact ⟨rfl, ((Below.refl _ _).alloc (Nat.le_refl _) _).alloc (by simp) _⟩

set_option maxHeartbeats 1000000 in
theorem specSameTurn_2 (cs ds : List Value) (p q : Turner) (B B' : Nat) (w : World) (hB1 : B ≤ w.heap.size) (hB2 : B' ≤ w.heap.size) (hr : turnE.rd w B cs p) (hs : turnE.rd w B' ds q) (x0 : p.letters = q.letters) (x1 : p.start = q.start) :
    Calls Tryz.prog 25 #[.agg cs.toArray, .agg ds.toArray] w (Gives (.bool (decide (p.moves = q.moves))) w) := by
  obtain ⟨v2, rfl, -, -, h2⟩ := rd_Turner hr
  obtain ⟨u2, rfl, -, -, k2⟩ := rd_Turner hs
  clear hr hs
  have b0 : (p.letters != q.letters) = false := by simp [x0]
  have b1 : (p.start != q.start) = false := by simp [x1]
  clear x0 x1
  obtain ⟨a, ca, rfl, a1, a2, -, a4⟩ := rd_slice1 rfl h2
  obtain ⟨b, cb, rfl, c1, c2, -, c4⟩ := rd_slice1 rfl k2
  clear h2 k2
  have H4 := Lib.hid a4; clear a4
  have K4 := Lib.hid c4; clear c4
  by_cases hlen : p.moves.length = q.moves.length
  case neg =>
    have hb := bne_len hlen
    have : p.moves ≠ q.moves := fun e => hlen (by rw [e])
    have Ht := Lib.hid this; clear this
    go_enter Tryz.func25, Tryz.ntmps25
    go_wp2
    go_ret
    exact ⟨by simp [Ht.out], ((Below.refl _ _).alloc (Nat.le_refl _) _).alloc (by simp) _⟩
  obtain ⟨n, hn⟩ : ∃ n, n = p.moves.length := ⟨_, rfl⟩
  rw [← hn] at hlen H4 a1 ⊢
  rw [← hlen] at K4 c1 ⊢
  have Hn := Lib.hid hn; clear hn
  have Hl := Lib.hid hlen; clear hlen
  go_enter Tryz.func25, Tryz.ntmps25
  go_wp2
  generalize hW : (w.alloc _).alloc _ = w0
  obtain ⟨A0, A1, hB0⟩ := blk2 hW
  clear hW
  have HA0 := Lib.hid A0; clear A0
  have HA1 := Lib.hid A1; clear A1
  have HB0 := Lib.hid hB0; clear hB0
  go_loopw [5, 6] (fun i _ wr => ∃ k : Nat, k ≤ n ∧ i = .int .i64 k ∧ Below w0.heap.size w0 wr ∧ Hid (∀ i, i < k → p.moves[i]?.getD [] = q.moves[i]?.getD [])) (fun i _ _ => n - (intOf i).toNat)
  case atStart => exact ⟨0, by omega, rfl, Below.refl _ _, Lib.hid (fun i hi => absurd hi (by omega))⟩
  case round =>
    obtain ⟨k, hk, rfl, hB, HE⟩ := hrel
    have A0 := HA0.out.of hB HA0.out.lt
    have A1 := HA1.out.of hB HA1.out.lt
    have d2 := A0.cell 2 rfl
    have e2 := A1.cell 2 rfl
    have lA0 := A0.lt; have lA1 := A1.lt
    have Bw := HB0.out.trans (hB.mono HB0.out.size)
    have HBw := Lib.hid Bw
    by_cases hlt : k < n
    case neg =>
      obtain rfl : k = n := by omega
      go_wp2
      go_ret
      have : p.moves = q.moves := ext_getD [] (by rw [← Hn.out, Hl.out]) (fun i hi => HE.out i (by rw [Hn.out]; exact hi))
      exact ⟨by simp [this], HBw.out⟩
    obtain ⟨r, o, v1, rfl, -, hc, hr1⟩ := H4.out k hlt
    obtain ⟨r', o', v2, rfl, -, hc', hr2⟩ := K4.out k hlt
    have g1 := (Bw.cell (World.block_lt_of_cell? w _ hc)).trans hc
    have g2 := (Bw.cell (World.block_lt_of_cell? w _ hc')).trans hc'
    obtain ⟨x, hx⟩ : ∃ x, x = p.moves[k]?.getD default := ⟨_, rfl⟩
    obtain ⟨y, hy⟩ : ∃ y, y = q.moves[k]?.getD default := ⟨_, rfl⟩
    rw [← hx] at hr1
    rw [← hy] at hr2
    have HX : Hid (x = p.moves[k]?.getD []) := Lib.hid hx; clear hx
    have HY : Hid (y = q.moves[k]?.getD []) := Lib.hid hy; clear hy
    obtain ⟨ia, ica, rfl, i1, i2, -, i4⟩ := rd_movesE hr1
    obtain ⟨ib, icb, rfl, j1, j2, -, j4⟩ := rd_movesE hr2
    have HG1 := Lib.hid hc; have HG2 := Lib.hid hc'
    clear hr1 hr2 hc hc' Bw
    have I4 := Lib.hid i4; clear i4
    have J4 := Lib.hid j4; clear j4
    by_cases hln : x.length = y.length
    case neg =>
      have hb := bne_len hln
      have : p.moves ≠ q.moves := fun e => hln (by rw [HX.out, HY.out, e])
      have Ht := Lib.hid this; clear this
      go_wp2
      go_quiet (fail)
      go_wp2
      go_ret
      exact ⟨by simp [Ht.out], below_drewN HBw.out _⟩
    obtain ⟨m, hm⟩ : ∃ m, m = x.length := ⟨_, rfl⟩
    rw [← hm] at hln I4 i1 g1 HG1
    rw [← hln] at J4 j1 g2 HG2
    have Hm := Lib.hid hm; clear hm
    have Hln := Lib.hid hln; clear hln
    go_wp2
    go_quiet (fail)
    go_wp2
    clear d2 e2 g1 g2 A0 A1 lA0 lA1
    go_loopw [6] (fun i wi => ∃ c : Nat, c ≤ m ∧ i = .int .i64 c ∧ Below w0.heap.size w0 wi ∧ Hid (∀ i, i < c → x[i]?.getD default = y[i]?.getD default)) (fun i _ => m - (intOf i).toNat)
    case atStart => exact ⟨0, by omega, rfl, below_drewN hB _, Lib.hid (fun i hi => absurd hi (by omega))⟩
    case round =>
      obtain ⟨c, hc, rfl, hI, HC⟩ := hrel
      have A0 := HA0.out.of hI HA0.out.lt
      have A1 := HA1.out.of hI HA1.out.lt
      have d2 := A0.cell 2 rfl
      have e2 := A1.cell 2 rfl
      have lA0 := A0.lt; have lA1 := A1.lt
      have Bw := HB0.out.trans (hI.mono HB0.out.size)
      have g1 := (Bw.cell (World.block_lt_of_cell? w _ HG1.out)).trans HG1.out
      have g2 := (Bw.cell (World.block_lt_of_cell? w _ HG2.out)).trans HG2.out
      have HBi := Lib.hid Bw
      by_cases hcm : c < m
      case neg =>
        obtain rfl : c = m := by omega
        clear Bw A0 A1
        have hxy := Lib.hid (show x = y from ext_getD default (by rw [← Hm.out, Hln.out]) (fun i hi => HC.out i (by rw [Hm.out]; exact hi)))
        go_wp2
        go_roundw
        case rel => exact ⟨k + 1, by omega, by go_num, hI, Lib.hid (fun i hi => by by_cases h : i = k; (subst h; rw [← HX.out, ← HY.out]; exact hxy.out); exact HE.out i (by omega))⟩
        case measure => simp [intOf]; omega
      obtain ⟨s, t, rfl, -, ⟨hp0, hp1⟩, -⟩ := I4.out c hcm
      obtain ⟨s', t', rfl, -, ⟨hq0, hq1⟩, -⟩ := J4.out c hcm
      have p0 := (Bw.cell (World.block_lt_of_cell? w _ hp0)).trans hp0
      have p1 := (Bw.cell (World.block_lt_of_cell? w _ hp1)).trans hp1
      have q0 := (Bw.cell (World.block_lt_of_cell? w _ hq0)).trans hq0
      have q1 := (Bw.cell (World.block_lt_of_cell? w _ hq1)).trans hq1
      have st : Tryz.prog.stoodInHeld 75 = false := by kernel_rfl
      have sg : Tryz.prog.eqGuardType Tryz.prog.depth 75 = false := by kernel_rfl
      clear hp0 hp1 hq0 hq1 Bw A0 A1
      generalize hx : x[c]?.getD default = xe at *
      generalize hy : y[c]?.getD default = ye at *
      have HXE := Lib.hid hx; have HYE := Lib.hid hy; clear hx hy
      by_cases f0 : xe.to = ye.to
      case neg =>
        have e0 : (xe.to == ye.to) = false := by simp [f0]
        have He := Lib.hid f0; clear f0
        go_wp2
        go_quiet (fail)
        go_wp2
        go_ret
        have : p.moves ≠ q.moves := fun e => He.out (by rw [← HXE.out, ← HYE.out, HX.out, HY.out, e])
        exact ⟨by simp [this], below_drewN HBi.out _⟩
      have e0 : (xe.to == ye.to) = true := by simp [f0]
      have F0 := Lib.hid f0; clear f0
      by_cases f1 : xe.dir = ye.dir
      case neg =>
        have e1 : (xe.dir == ye.dir) = false := by simp [f1]
        have He := Lib.hid f1; clear f1
        go_wp2
        go_quiet (fail)
        go_wp2
        go_ret
        have : p.moves ≠ q.moves := fun e => He.out (by rw [← HXE.out, ← HYE.out, HX.out, HY.out, e])
        exact ⟨by simp [this], below_drewN HBi.out _⟩
      have e1 : (xe.dir == ye.dir) = true := by simp [f1]
      have F1 := Lib.hid f1; clear f1
      have He : Hid (xe = ye) := Lib.hid (by cases xe; cases ye; have := F0.out; have := F1.out; simp_all)
      go_wp2
      go_quiet (fail)
      go_wp2
      go_roundw
      case rel => exact ⟨c + 1, by omega, by go_num, below_drewN hI _, Lib.hid (fun i hi => by by_cases h : i = c; (subst h; rw [HXE.out, HYE.out]; exact He.out); exact HC.out i (by omega))⟩
      case measure => simp [intOf]; omega

theorem specSameTurn_any (cs ds : List Value) (p q : Turner) (B B' : Nat) (w : World) (hB1 : B ≤ w.heap.size) (hB2 : B' ≤ w.heap.size) (hr : turnE.rd w B cs p) (hs : turnE.rd w B' ds q) :
    Calls Tryz.prog 25 #[.agg cs.toArray, .agg ds.toArray] w (Gives (.bool (decide (p = q))) w) := by
  by_cases x0 : p.letters = q.letters
  case neg => rw [decide_eq_false (fun e => x0 (by rw [e]))]; exact specSameTurn_0 cs ds p q B B' w hr hs x0
  by_cases x1 : p.start = q.start
  case neg => rw [decide_eq_false (fun e => x1 (by rw [e]))]; exact specSameTurn_1 cs ds p q B B' w hr hs x0 x1
  have e : decide (p = q) = decide (p.moves = q.moves) := by
    by_cases x2 : p.moves = q.moves
    · rw [decide_eq_true x2, decide_eq_true (by cases p; cases q; simp_all)]
    · rw [decide_eq_false x2, decide_eq_false (fun e => x2 (by rw [e]))]
  rw [e]
  exact specSameTurn_2 cs ds p q B B' w hB1 hB2 hr hs x0 x1

theorem specSameTurn_is (rb : Bool) (cs ds : List Value) (p q : Turner) (B B' : Nat) (w : World) (hB1 : B ≤ w.heap.size) (hB2 : B' ≤ w.heap.size) (hr : turnE.rd w B cs p) (hs : turnE.rd w B' ds q) (hrb : decide (p = q) = rb) :
    Calls Tryz.prog 25 #[.agg cs.toArray, .agg ds.toArray] w (Gives (.bool rb) w) := hrb ▸ specSameTurn_any cs ds p q B B' w hB1 hB2 hr hs

end Go.Proofs.YtfamhnogpcmbmaaGreatDoor
