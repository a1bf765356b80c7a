/-
  The contract of the laws' own eqReader (written by a program of this claim's own, gen_structs.py).
-/
import Derived.Test.YtmbecaiieibcjaaLBoolS
import Derived.Test.YtmbecaiieibcjaaLInt64SS
namespace Go.Proofs.Ytmbecaiieibcjaa
open Go.RowKit

set_option maxHeartbeats 400000 in
theorem eqReader_0 (cs ds : List Value) (r s : Reader) (B B' : Nat) (w : World) (hB1 : B ≤ w.heap.size) (hB2 : B' ≤ w.heap.size) (hr : readE.rd w B cs r) (hs : readE.rd w B' ds s) (x0 : ¬ r.letters = s.letters) :
    Calls Try.prog 14 #[.agg cs.toArray, .agg ds.toArray] w (Gives (.bool false) w) := by
  obtain ⟨p2, p3, rfl, -, -, h2, h3⟩ := rd_Reader hr
  obtain ⟨q2, q3, rfl, -, -, k2, k3⟩ := rd_Reader hs
  clear hr hs
  obtain ⟨pa2, pn2, pc2, rfl⟩ := rd_slice h2
  obtain ⟨qa2, qn2, qc2, rfl⟩ := rd_slice k2
  have H2 := Lib.hid h2; clear h2
  have K2 := Lib.hid k2; clear k2
  obtain ⟨pa3, pn3, pc3, rfl⟩ := rd_slice h3
  obtain ⟨qa3, qn3, qc3, rfl⟩ := rd_slice k3
  have H3 := Lib.hid h3; clear h3
  have K3 := Lib.hid k3; clear k3
  have b0 : (r.letters != s.letters) = true := by simp [x0]
  clear x0
  go_enter Try.func14, Try.ntmps14
  go_wp2
  go_ret
  exact ⟨rfl, ((Below.refl _ _).alloc (Nat.le_refl _) _).alloc (by simp) _⟩

set_option maxHeartbeats 400000 in
theorem eqReader_1 (cs ds : List Value) (r s : Reader) (B B' : Nat) (w : World) (hB1 : B ≤ w.heap.size) (hB2 : B' ≤ w.heap.size) (hr : readE.rd w B cs r) (hs : readE.rd w B' ds s) (x0 :  r.letters = s.letters) (x1 : ¬ r.start = s.start) :
    Calls Try.prog 14 #[.agg cs.toArray, .agg ds.toArray] w (Gives (.bool false) w) := by
  obtain ⟨p2, p3, rfl, -, -, h2, h3⟩ := rd_Reader hr
  obtain ⟨q2, q3, rfl, -, -, k2, k3⟩ := rd_Reader hs
  clear hr hs
  obtain ⟨pa2, pn2, pc2, rfl⟩ := rd_slice h2
  obtain ⟨qa2, qn2, qc2, rfl⟩ := rd_slice k2
  have H2 := Lib.hid h2; clear h2
  have K2 := Lib.hid k2; clear k2
  obtain ⟨pa3, pn3, pc3, rfl⟩ := rd_slice h3
  obtain ⟨qa3, qn3, qc3, rfl⟩ := rd_slice k3
  have H3 := Lib.hid h3; clear h3
  have K3 := Lib.hid k3; clear k3
  have b0 : (r.letters != s.letters) = false := by simp [x0]
  clear x0
  have b1 : (r.start != s.start) = true := by simp [x1]
  clear x1
  go_enter Try.func14, Try.ntmps14
  go_wp2
  go_ret
  exact ⟨rfl, ((Below.refl _ _).alloc (Nat.le_refl _) _).alloc (by simp) _⟩

set_option maxHeartbeats 400000 in
theorem eqReader_2 (cs ds : List Value) (r s : Reader) (B B' : Nat) (w : World) (hB1 : B ≤ w.heap.size) (hB2 : B' ≤ w.heap.size) (hr : readE.rd w B cs r) (hs : readE.rd w B' ds s) (x0 :  r.letters = s.letters) (x1 :  r.start = s.start) (x2 : ¬ r.accept = s.accept) :
    Calls Try.prog 14 #[.agg cs.toArray, .agg ds.toArray] w (Gives (.bool false) w) := by
  obtain ⟨p2, p3, rfl, -, -, h2, h3⟩ := rd_Reader hr
  obtain ⟨q2, q3, rfl, -, -, k2, k3⟩ := rd_Reader hs
  clear hr hs
  obtain ⟨pa2, pn2, pc2, rfl⟩ := rd_slice h2
  obtain ⟨qa2, qn2, qc2, rfl⟩ := rd_slice k2
  have H2 := Lib.hid h2; clear h2
  have K2 := Lib.hid k2; clear k2
  obtain ⟨pa3, pn3, pc3, rfl⟩ := rd_slice h3
  obtain ⟨qa3, qn3, qc3, rfl⟩ := rd_slice k3
  have H3 := Lib.hid h3; clear h3
  have K3 := Lib.hid k3; clear k3
  have b0 : (r.letters != s.letters) = false := by simp [x0]
  clear x0
  have b1 : (r.start != s.start) = false := by simp [x1]
  clear x1
  have Y2 := Lib.hid x2; clear x2
  go_enter Try.func14, Try.ntmps14
  go_wp2_with fail
  generalize hW : (w.alloc _).alloc _ = w0
  obtain ⟨A0, A1, hB⟩ := blk2 hW
  clear hW
  refine (eqBoolS_is false _ _ _ _ B B' _ (decide_eq_false Y2.out) (boolsE.rd_of (hB.mono hB1) H2.out) (boolsE.rd_of (hB.mono hB2) K2.out)).mono ?_
  rintro e w1 ⟨rfl, hbl⟩
  have hB1' := hB.trans (hbl.mono hB.size)
  clear hbl hB A0 A1
  go_wp2
  go_ret
  exact ⟨rfl, hB1'⟩

set_option maxHeartbeats 400000 in
theorem eqReader_3 (cs ds : List Value) (r s : Reader) (B B' : Nat) (w : World) (hB1 : B ≤ w.heap.size) (hB2 : B' ≤ w.heap.size) (hr : readE.rd w B cs r) (hs : readE.rd w B' ds s) (x0 :  r.letters = s.letters) (x1 :  r.start = s.start) (x2 :  r.accept = s.accept) (x3 : ¬ r.next = s.next) :
    Calls Try.prog 14 #[.agg cs.toArray, .agg ds.toArray] w (Gives (.bool false) w) := by
  obtain ⟨p2, p3, rfl, -, -, h2, h3⟩ := rd_Reader hr
  obtain ⟨q2, q3, rfl, -, -, k2, k3⟩ := rd_Reader hs
  clear hr hs
  obtain ⟨pa2, pn2, pc2, rfl⟩ := rd_slice h2
  obtain ⟨qa2, qn2, qc2, rfl⟩ := rd_slice k2
  have H2 := Lib.hid h2; clear h2
  have K2 := Lib.hid k2; clear k2
  obtain ⟨pa3, pn3, pc3, rfl⟩ := rd_slice h3
  obtain ⟨qa3, qn3, qc3, rfl⟩ := rd_slice k3
  have H3 := Lib.hid h3; clear h3
  have K3 := Lib.hid k3; clear k3
  have b0 : (r.letters != s.letters) = false := by simp [x0]
  clear x0
  have b1 : (r.start != s.start) = false := by simp [x1]
  clear x1
  have Y2 := Lib.hid x2; clear x2
  have Y3 := Lib.hid x3; clear x3
  go_enter Try.func14, Try.ntmps14
  go_wp2_with fail
  generalize hW : (w.alloc _).alloc _ = w0
  obtain ⟨A0, A1, hB⟩ := blk2 hW
  clear hW
  refine (eqBoolS_is true _ _ _ _ B B' _ (decide_eq_true Y2.out) (boolsE.rd_of (hB.mono hB1) H2.out) (boolsE.rd_of (hB.mono hB2) K2.out)).mono ?_
  rintro e w1 ⟨rfl, hbl⟩
  have hB1' := hB.trans (hbl.mono hB.size)
  have A0 := A0.of hbl A0.lt
  have A1 := A1.of hbl A1.lt
  clear hB hbl
  have hB := hB1'; clear hB1'
  have c0 := A0.cell 3 rfl
  have c1 := A1.cell 3 rfl
  have HA0 := Lib.hid A0; clear A0
  have HA1 := Lib.hid A1; clear A1
  go_wp2_with fail
  have A0 := HA0.out; have A1 := HA1.out
  clear HA0 HA1 c0 c1
  refine (eqInt64SS_is false _ _ _ _ B B' _ (Nat.le_trans hB1 hB.size) (Nat.le_trans hB2 hB.size) (decide_eq_false Y3.out) (intssE.rd_of (hB.mono hB1) H3.out) (intssE.rd_of (hB.mono hB2) K3.out)).mono ?_
  rintro e w1 ⟨rfl, hbl⟩
  have hB1' := hB.trans (hbl.mono hB.size)
  clear hbl hB A0 A1
  go_wp2
  go_ret
  exact ⟨rfl, hB1'⟩

set_option maxHeartbeats 400000 in
theorem eqReader_4 (cs ds : List Value) (r s : Reader) (B B' : Nat) (w : World) (hB1 : B ≤ w.heap.size) (hB2 : B' ≤ w.heap.size) (hr : readE.rd w B cs r) (hs : readE.rd w B' ds s) (x0 :  r.letters = s.letters) (x1 :  r.start = s.start) (x2 :  r.accept = s.accept) (x3 :  r.next = s.next) :
    Calls Try.prog 14 #[.agg cs.toArray, .agg ds.toArray] w (Gives (.bool true) w) := by
  obtain ⟨p2, p3, rfl, -, -, h2, h3⟩ := rd_Reader hr
  obtain ⟨q2, q3, rfl, -, -, k2, k3⟩ := rd_Reader hs
  clear hr hs
  obtain ⟨pa2, pn2, pc2, rfl⟩ := rd_slice h2
  obtain ⟨qa2, qn2, qc2, rfl⟩ := rd_slice k2
  have H2 := Lib.hid h2; clear h2
  have K2 := Lib.hid k2; clear k2
  obtain ⟨pa3, pn3, pc3, rfl⟩ := rd_slice h3
  obtain ⟨qa3, qn3, qc3, rfl⟩ := rd_slice k3
  have H3 := Lib.hid h3; clear h3
  have K3 := Lib.hid k3; clear k3
  have b0 : (r.letters != s.letters) = false := by simp [x0]
  clear x0
  have b1 : (r.start != s.start) = false := by simp [x1]
  clear x1
  have Y2 := Lib.hid x2; clear x2
  have Y3 := Lib.hid x3; clear x3
  go_enter Try.func14, Try.ntmps14
  go_wp2_with fail
  generalize hW : (w.alloc _).alloc _ = w0
  obtain ⟨A0, A1, hB⟩ := blk2 hW
  clear hW
  refine (eqBoolS_is true _ _ _ _ B B' _ (decide_eq_true Y2.out) (boolsE.rd_of (hB.mono hB1) H2.out) (boolsE.rd_of (hB.mono hB2) K2.out)).mono ?_
  rintro e w1 ⟨rfl, hbl⟩
  have hB1' := hB.trans (hbl.mono hB.size)
  have A0 := A0.of hbl A0.lt
  have A1 := A1.of hbl A1.lt
  clear hB hbl
  have hB := hB1'; clear hB1'
  have c0 := A0.cell 3 rfl
  have c1 := A1.cell 3 rfl
  have HA0 := Lib.hid A0; clear A0
  have HA1 := Lib.hid A1; clear A1
  go_wp2_with fail
  have A0 := HA0.out; have A1 := HA1.out
  clear HA0 HA1 c0 c1
  refine (eqInt64SS_is true _ _ _ _ B B' _ (Nat.le_trans hB1 hB.size) (Nat.le_trans hB2 hB.size) (decide_eq_true Y3.out) (intssE.rd_of (hB.mono hB1) H3.out) (intssE.rd_of (hB.mono hB2) K3.out)).mono ?_
  rintro e w1 ⟨rfl, hbl⟩
  have hB1' := hB.trans (hbl.mono hB.size)
  clear hbl hB A0 A1
  go_wp2
  go_ret
  exact ⟨rfl, hB1'⟩

theorem eqReader_any (cs ds : List Value) (r s : Reader) (B B' : Nat) (w : World) (hB1 : B ≤ w.heap.size) (hB2 : B' ≤ w.heap.size) (hr : readE.rd w B cs r) (hs : readE.rd w B' ds s) : Calls Try.prog 14 #[.agg cs.toArray, .agg ds.toArray] w (Gives (.bool (decide (r = s))) w) := by
  by_cases x0 : r.letters = s.letters
  case neg => rw [decide_eq_false (fun e => x0 (by rw [e]))]; exact eqReader_0 cs ds r s B B' w hB1 hB2 hr hs x0
  by_cases x1 : r.start = s.start
  case neg => rw [decide_eq_false (fun e => x1 (by rw [e]))]; exact eqReader_1 cs ds r s B B' w hB1 hB2 hr hs x0 x1
  by_cases x2 : r.accept = s.accept
  case neg => rw [decide_eq_false (fun e => x2 (by rw [e]))]; exact eqReader_2 cs ds r s B B' w hB1 hB2 hr hs x0 x1 x2
  by_cases x3 : r.next = s.next
  case neg => rw [decide_eq_false (fun e => x3 (by rw [e]))]; exact eqReader_3 cs ds r s B B' w hB1 hB2 hr hs x0 x1 x2 x3
  rw [decide_eq_true (show r = s from by cases r; cases s; simp_all)]; exact eqReader_4 cs ds r s B B' w hB1 hB2 hr hs x0 x1 x2 x3

theorem eqReader_is (rb : Bool) (cs ds : List Value) (r s : Reader) (B B' : Nat) (w : World) (hB1 : B ≤ w.heap.size) (hB2 : B' ≤ w.heap.size) (hr : readE.rd w B cs r) (hs : readE.rd w B' ds s) (hrb : decide (r = s) = rb) : Calls Try.prog 14 #[.agg cs.toArray, .agg ds.toArray] w (Gives (.bool rb) w) := hrb ▸ eqReader_any cs ds r s B B' w hB1 hB2 hr hs

end Go.Proofs.Ytmbecaiieibcjaa
