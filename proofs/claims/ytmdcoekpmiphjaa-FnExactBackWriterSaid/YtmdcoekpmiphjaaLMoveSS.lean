/-
  Contracts of the laws' own helpers at one slice type (written by a program of this claim's own, gen_leaf.py).
-/
import Derived.Test.YtmdcoekpmiphjaaLMoveS
namespace Go.Proofs.Ytmdcoekpmiphjaa
open Go.RowKit

set_option maxHeartbeats 400000 in
theorem eqMoveSS_any (va vb : Value) (la lb : List (List Move)) (B B' : Nat) (w : World) (hB1 : B ≤ w.heap.size) (hB2 : B' ≤ w.heap.size) (ha : movessE.rd w B [va] la) (hb : movessE.rd w B' [vb] lb) :
    Calls Try.prog 25 #[va, vb] w (Gives (.bool (decide (la = lb))) w) := by
  obtain ⟨a, ca, rfl, a1, a2, -, a4⟩ := rd_slice1 rfl ha
  obtain ⟨b, cb, rfl, b1, b2, -, b4⟩ := rd_slice1 rfl hb
  clear ha hb
  have H4 := Lib.hid a4; clear a4
  have K4 := Lib.hid b4; clear b4
  by_cases hlen : la.length = lb.length
  · obtain ⟨n, hn⟩ : ∃ n, n = la.length := ⟨_, rfl⟩
    rw [← hn] at hlen H4 a1 ⊢
    rw [← hlen] at K4 b1 ⊢
    have Hn := Lib.hid hn; clear hn
    have Hl := Lib.hid hlen; clear hlen
    go_enter Try.func25, Try.ntmps25
    go_wp2
    go_loopw [5] (fun i wr => ∃ k : Nat, k ≤ n ∧ i = .int .i64 k ∧ Below w.heap.size w wr ∧ Hid (∀ i, i < k → la[i]?.getD [] = lb[i]?.getD [])) (fun i _ => n - (intOf i).toNat)
    case atStart => exact ⟨0, by omega, rfl, Below.refl _ _, Lib.hid (fun i hi => absurd hi (by omega))⟩
    case round =>
      obtain ⟨k, hk, rfl, hB, HE⟩ := hrel
      by_cases hlt : k < n
      · obtain ⟨p, o, v1, rfl, -, hc, hr1⟩ := H4.out k hlt
        obtain ⟨p', o', v2, rfl, -, hc', hr2⟩ := K4.out k hlt
        have g1 := World.block_lt_of_cell? w _ hc
        have g2 := World.block_lt_of_cell? w _ hc'
        have c1 := (hB.cell g1).trans hc
        have c2 := (hB.cell g2).trans hc'
        have g1 : p < wr.heap.size := Nat.lt_of_lt_of_le g1 hB.size
        have g2 : p' < wr.heap.size := Nat.lt_of_lt_of_le g2 hB.size
        have hov := cell_over wr
        have r1 := movesE.rd_of (hB.mono hB1) hr1
        have r2 := movesE.rd_of (hB.mono hB2) hr2
        have q1 : B ≤ wr.heap.size := Nat.le_trans hB1 hB.size
        have q2 : B' ≤ wr.heap.size := Nat.le_trans hB2 hB.size
        have R1 := Lib.hid r1; clear r1 hr1
        have R2 := Lib.hid r2; clear r2 hr2
        clear hc hc'
        by_cases he : la[k]?.getD [] = lb[k]?.getD []
        · have He := Lib.hid he; clear he
          go_wp2
          refine wp_region_over (by kernel_rfl) (by kernel_rfl) ?_
          repeat (go_big_quiet_step ((go_at_call 49; exact calls_over (eqMoveS_is true _ _ _ _ _ _ _ (decide_eq_true He.out) (movesE.rd_of ((below_over wr _).mono q1) R1.out) (movesE.rd_of ((below_over wr _).mono q2) R2.out)))))
          refine wpQuiet_nil ?_
          intro w1 hw1
          go_wp2
          go_roundw
          case rel => exact ⟨k + 1, by omega, by go_num, hB.trans (hw1.mono hB.size), Lib.hid (fun i hi => by by_cases h : i = k; (subst h; exact He.out); exact HE.out i (by omega))⟩
          case measure => simp [intOf]; omega
        · have He := Lib.hid he; clear he
          go_wp2
          refine wp_region_over (by kernel_rfl) (by kernel_rfl) ?_
          repeat (go_big_quiet_step ((go_at_call 49; exact calls_over (eqMoveS_is false _ _ _ _ _ _ _ (decide_eq_false He.out) (movesE.rd_of ((below_over wr _).mono q1) R1.out) (movesE.rd_of ((below_over wr _).mono q2) R2.out)))))
          refine wpQuiet_nil ?_
          intro w1 hw1
          go_wp2
          go_ret
          have : la ≠ lb := fun e => He.out (by rw [e])
          exact ⟨by simp [this], hB.trans (hw1.mono hB.size)⟩
      · obtain rfl : k = n := by omega
        go_wp2
        go_ret
        have : la = lb := ext_getD [] (by rw [← Hn.out, Hl.out]) (fun i hi => HE.out i (by rw [Hn.out]; exact hi))
        exact ⟨by simp [this], hB⟩
  · have hb := bne_len hlen
    have : la ≠ lb := fun e => hlen (by rw [e])
    have Ht := Lib.hid this; clear this
    go_enter Try.func25, Try.ntmps25
    go_wp2
    go_ret
    exact ⟨by simp [Ht.out], Below.refl _ _⟩

theorem eqMoveSS_is (r : Bool) (va vb : Value) (la lb : List (List Move)) (B B' : Nat) (w : World) (hB1 : B ≤ w.heap.size) (hB2 : B' ≤ w.heap.size) (hr : decide (la = lb) = r) (ha : movessE.rd w B [va] la) (hb : movessE.rd w B' [vb] lb) :
    Calls Try.prog 25 #[va, vb] w (Gives (.bool r) w) := hr ▸ eqMoveSS_any va vb la lb B B' w hB1 hB2 ha hb

theorem info_MoveSS : (Try.prog.info? 51).map (fun i => (i.zero, i.size, i.bytes)) = some (some (.slice none 0 0), 1, 24) := by kernel_rfl

end Go.Proofs.Ytmdcoekpmiphjaa
