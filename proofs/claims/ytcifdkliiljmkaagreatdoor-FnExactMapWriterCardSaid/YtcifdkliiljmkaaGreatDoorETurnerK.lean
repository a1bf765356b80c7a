/-
  The contract of the laws' own eqTurner (written by a program of this claim's own, gen_structs.py).
-/
import Derived.Test.YtcifdkliiljmkaaGreatDoorPackA
namespace Go.Proofs.YtcifdkliiljmkaaGreatDoor
open Go.RowKit

set_option maxHeartbeats 400000 in
theorem eqTurner_0 (cs ds : List Value) (r s : Turner) (B B' : Nat) (w : World) (hB1 : B ≤ w.heap.size) (hB2 : B' ≤ w.heap.size) (hr : turnE.rd w B cs r) (hs : turnE.rd w B' ds s) (x0 : ¬ r.letters = s.letters) :
    Calls Tryz.prog 11 #[.agg cs.toArray, .agg ds.toArray] w (Gives (.bool false) w) := by
  obtain ⟨p2, rfl, -, -, h2⟩ := rd_Turner hr
  obtain ⟨q2, rfl, -, -, k2⟩ := rd_Turner hs
  clear hr hs
  obtain ⟨pa2, pn2, pc2, rfl⟩ := rd_slice h2
  obtain ⟨qa2, qn2, qc2, rfl⟩ := rd_slice k2
  have H2 := Lib.hid h2; clear h2
  have K2 := Lib.hid k2; clear k2
  have b0 : (r.letters != s.letters) = true := by simp [x0]
  clear x0
  go_enter Tryz.func11, Tryz.ntmps11
  go_wp2
  go_ret
  exact ⟨rfl, ((Below.refl _ _).alloc (Nat.le_refl _) _).alloc (by simp) _⟩

set_option maxHeartbeats 400000 in
theorem eqTurner_1 (cs ds : List Value) (r s : Turner) (B B' : Nat) (w : World) (hB1 : B ≤ w.heap.size) (hB2 : B' ≤ w.heap.size) (hr : turnE.rd w B cs r) (hs : turnE.rd w B' ds s) (x0 :  r.letters = s.letters) (x1 : ¬ r.start = s.start) :
    Calls Tryz.prog 11 #[.agg cs.toArray, .agg ds.toArray] w (Gives (.bool false) w) := by
  obtain ⟨p2, rfl, -, -, h2⟩ := rd_Turner hr
  obtain ⟨q2, rfl, -, -, k2⟩ := rd_Turner hs
  clear hr hs
  obtain ⟨pa2, pn2, pc2, rfl⟩ := rd_slice h2
  obtain ⟨qa2, qn2, qc2, rfl⟩ := rd_slice k2
  have H2 := Lib.hid h2; clear h2
  have K2 := Lib.hid k2; clear k2
  have b0 : (r.letters != s.letters) = false := by simp [x0]
  clear x0
  have b1 : (r.start != s.start) = true := by simp [x1]
  clear x1
  go_enter Tryz.func11, Tryz.ntmps11
  go_wp2
  go_ret
  exact ⟨rfl, ((Below.refl _ _).alloc (Nat.le_refl _) _).alloc (by simp) _⟩

set_option maxHeartbeats 400000 in
theorem eqTurner_2 (cs ds : List Value) (r s : Turner) (B B' : Nat) (w : World) (hB1 : B ≤ w.heap.size) (hB2 : B' ≤ w.heap.size) (hr : turnE.rd w B cs r) (hs : turnE.rd w B' ds s) (x0 :  r.letters = s.letters) (x1 :  r.start = s.start) (x2 : ¬ r.moves = s.moves) :
    Calls Tryz.prog 11 #[.agg cs.toArray, .agg ds.toArray] w (Gives (.bool false) w) := by
  obtain ⟨p2, rfl, -, -, h2⟩ := rd_Turner hr
  obtain ⟨q2, rfl, -, -, k2⟩ := rd_Turner hs
  clear hr hs
  obtain ⟨pa2, pn2, pc2, rfl⟩ := rd_slice h2
  obtain ⟨qa2, qn2, qc2, rfl⟩ := rd_slice k2
  have H2 := Lib.hid h2; clear h2
  have K2 := Lib.hid k2; clear k2
  have b0 : (r.letters != s.letters) = false := by simp [x0]
  clear x0
  have b1 : (r.start != s.start) = false := by simp [x1]
  clear x1
  have Y2 := Lib.hid x2; clear x2
  go_enter Tryz.func11, Tryz.ntmps11
  go_wp2_with fail
  generalize hW : (w.alloc _).alloc _ = w0
  obtain ⟨A0, A1, hB⟩ := blk2 hW
  clear hW
  refine (eqMoveSS_is false _ _ _ _ B B' _ (Nat.le_trans hB1 hB.size) (Nat.le_trans hB2 hB.size) (decide_eq_false Y2.out) (movessE.rd_of (hB.mono hB1) H2.out) (movessE.rd_of (hB.mono hB2) K2.out)).mono ?_
  rintro e w1 ⟨rfl, hbl⟩
  have hB1' := hB.trans (hbl.mono hB.size)
  clear hbl hB A0 A1
  go_wp2
  go_ret
  exact ⟨rfl, hB1'⟩

set_option maxHeartbeats 400000 in
theorem eqTurner_3 (cs ds : List Value) (r s : Turner) (B B' : Nat) (w : World) (hB1 : B ≤ w.heap.size) (hB2 : B' ≤ w.heap.size) (hr : turnE.rd w B cs r) (hs : turnE.rd w B' ds s) (x0 :  r.letters = s.letters) (x1 :  r.start = s.start) (x2 :  r.moves = s.moves) :
    Calls Tryz.prog 11 #[.agg cs.toArray, .agg ds.toArray] w (Gives (.bool true) w) := by
  obtain ⟨p2, rfl, -, -, h2⟩ := rd_Turner hr
  obtain ⟨q2, rfl, -, -, k2⟩ := rd_Turner hs
  clear hr hs
  obtain ⟨pa2, pn2, pc2, rfl⟩ := rd_slice h2
  obtain ⟨qa2, qn2, qc2, rfl⟩ := rd_slice k2
  have H2 := Lib.hid h2; clear h2
  have K2 := Lib.hid k2; clear k2
  have b0 : (r.letters != s.letters) = false := by simp [x0]
  clear x0
  have b1 : (r.start != s.start) = false := by simp [x1]
  clear x1
  have Y2 := Lib.hid x2; clear x2
  go_enter Tryz.func11, Tryz.ntmps11
  go_wp2_with fail
  generalize hW : (w.alloc _).alloc _ = w0
  obtain ⟨A0, A1, hB⟩ := blk2 hW
  clear hW
  refine (eqMoveSS_is true _ _ _ _ B B' _ (Nat.le_trans hB1 hB.size) (Nat.le_trans hB2 hB.size) (decide_eq_true Y2.out) (movessE.rd_of (hB.mono hB1) H2.out) (movessE.rd_of (hB.mono hB2) K2.out)).mono ?_
  rintro e w1 ⟨rfl, hbl⟩
  have hB1' := hB.trans (hbl.mono hB.size)
  clear hbl hB A0 A1
  go_wp2
  go_ret
  exact ⟨rfl, hB1'⟩

theorem eqTurner_any (cs ds : List Value) (r s : Turner) (B B' : Nat) (w : World) (hB1 : B ≤ w.heap.size) (hB2 : B' ≤ w.heap.size) (hr : turnE.rd w B cs r) (hs : turnE.rd w B' ds s) : Calls Tryz.prog 11 #[.agg cs.toArray, .agg ds.toArray] w (Gives (.bool (decide (r = s))) w) := by
  by_cases x0 : r.letters = s.letters
  case neg => rw [decide_eq_false (fun e => x0 (by rw [e]))]; exact eqTurner_0 cs ds r s B B' w hB1 hB2 hr hs x0
  by_cases x1 : r.start = s.start
  case neg => rw [decide_eq_false (fun e => x1 (by rw [e]))]; exact eqTurner_1 cs ds r s B B' w hB1 hB2 hr hs x0 x1
  by_cases x2 : r.moves = s.moves
  case neg => rw [decide_eq_false (fun e => x2 (by rw [e]))]; exact eqTurner_2 cs ds r s B B' w hB1 hB2 hr hs x0 x1 x2
  rw [decide_eq_true (show r = s from by cases r; cases s; simp_all)]; exact eqTurner_3 cs ds r s B B' w hB1 hB2 hr hs x0 x1 x2

theorem eqTurner_is (rb : Bool) (cs ds : List Value) (r s : Turner) (B B' : Nat) (w : World) (hB1 : B ≤ w.heap.size) (hB2 : B' ≤ w.heap.size) (hr : turnE.rd w B cs r) (hs : turnE.rd w B' ds s) (hrb : decide (r = s) = rb) : Calls Tryz.prog 11 #[.agg cs.toArray, .agg ds.toArray] w (Gives (.bool rb) w) := hrb ▸ eqTurner_any cs ds r s B B' w hB1 hB2 hr hs

end Go.Proofs.YtcifdkliiljmkaaGreatDoor
