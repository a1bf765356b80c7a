/-
  The contract of the laws' own eqWriter (written by a program of this claim's own, gen_writ.py).
-/
import Derived.Test.YtcifdkliiljmkaaGreatDoorETurnerK
import Derived.Test.YtcifdkliiljmkaaGreatDoorPackA
import Derived.Test.YtcifdkliiljmkaaGreatDoorPackB
namespace Go.Proofs.YtcifdkliiljmkaaGreatDoor
open Go.RowKit

set_option maxHeartbeats 1000000 in
theorem eqWriter_any (cs ds : List Value) (r s : Writer) (B B' : Nat) (w : World) (hB1 : B ≤ w.heap.size) (hB2 : B' ≤ w.heap.size) (hr : writE.rd w B cs r) (hs : writE.rd w B' ds s) :
    Calls Tryz.prog 12 #[.agg cs.toArray, .agg ds.toArray] w (Gives (.bool (decide (r = s))) w) := by
  obtain ⟨v2, v3, rfl, h2, h3⟩ := rd_Writer hr
  obtain ⟨v2', he, -, -, k2⟩ := rd_Turner h2
  obtain rfl : v2 = v2' := by simpa using he
  obtain ⟨a2, n2, c2, rfl⟩ := rd_slice k2
  obtain ⟨a3, n3, c3, rfl⟩ := rd_slice h3
  obtain ⟨u2, u3, rfl, i2, i3⟩ := rd_Writer hs
  obtain ⟨u2', he', -, -, j2⟩ := rd_Turner i2
  obtain rfl : u2 = u2' := by simpa using he'
  obtain ⟨b2, m2, d2, rfl⟩ := rd_slice j2
  obtain ⟨b3, m3, d3, rfl⟩ := rd_slice i3
  have H2 := Lib.hid h2; have H3 := Lib.hid h3; have I2 := Lib.hid i2; have I3 := Lib.hid i3
  clear hr hs h2 h3 i2 i3 k2 j2 he he'
  have S := ((Star.nil w).alloc (cs := #[.int .i64 r.turner.letters, .int .i64 r.turner.start, .slice a2 n2 c2, .slice a3 n3 c3]) (ty := 40)).alloc (cs := #[.int .i64 s.turner.letters, .int .i64 s.turner.start, .slice b2 m2 d2, .slice b3 m3 d3]) (ty := 40)
  rw [World.size_alloc] at S
  go_enter Tryz.func12, Tryz.ntmps12
  go_wp2_with fail
  generalize hW : (w.alloc _).alloc _ = w0 at S ⊢
  clear hW
  replace S : Star w w0 [oB (w.heap.size + 1) [.int .i64 s.turner.letters, .int .i64 s.turner.start, .slice b2 m2 d2, .slice b3 m3 d3] 40, oB w.heap.size [.int .i64 r.turner.letters, .int .i64 r.turner.start, .slice a2 n2 c2, .slice a3 n3 c3] 40] := S
  refine (eqTurner_any _ _ r.turner s.turner B B' _ (Nat.le_trans hB1 S.below.size) (Nat.le_trans hB2 S.below.size) (turnE.rd_of (S.below.mono hB1) H2.out) (turnE.rd_of (S.below.mono hB2) I2.out)).mono ?_
  rintro e w1 ⟨rfl, b⟩
  replace S := S.step b
  clear b
  by_cases ht : r.turner = s.turner
  case neg =>
    rw [decide_eq_false ht]
    have HF : Hid (decide (r = s) = false) := Lib.hid (decide_eq_false (fun e => ht (by rw [e])))
    clear ht
    go_wp2
    go_ret
    exact ⟨by rw [HF.out]; rfl, S.below⟩
  rw [decide_eq_true ht]
  have HT := Lib.hid ht; clear ht
  have p3 := (S.blk 1 rfl).cell 3 rfl
  have q3 := (S.blk 0 rfl).cell 3 rfl
  go_wp2_with fail
  refine (eqStringSS_any _ _ r.out s.out B B' _ (Nat.le_trans hB1 S.below.size) (Nat.le_trans hB2 S.below.size) (strssE.rd_of (S.below.mono hB1) H3.out) (strssE.rd_of (S.below.mono hB2) I3.out)).mono ?_
  rintro e w2 ⟨rfl, b⟩
  replace S := S.step b
  clear b p3 q3
  by_cases ho : r.out = s.out
  case neg =>
    rw [decide_eq_false ho]
    have HF : Hid (decide (r = s) = false) := Lib.hid (decide_eq_false (fun e => ho (by rw [e])))
    clear ho
    go_wp2
    go_ret
    exact ⟨by rw [HF.out]; rfl, S.below⟩
  rw [decide_eq_true ho]
  have HF : Hid (decide (r = s) = true) := Lib.hid (decide_eq_true (by have := HT.out; cases r; cases s; simp_all))
  clear ho
  go_wp2
  go_ret
  exact ⟨by rw [HF.out]; rfl, S.below⟩

theorem eqWriter_is (rb : Bool) (cs ds : List Value) (r s : Writer) (B B' : Nat) (w : World) (hB1 : B ≤ w.heap.size) (hB2 : B' ≤ w.heap.size) (hr : writE.rd w B cs r) (hs : writE.rd w B' ds s) (hrb : decide (r = s) = rb) :
    Calls Tryz.prog 12 #[.agg cs.toArray, .agg ds.toArray] w (Gives (.bool rb) w) := hrb ▸ eqWriter_any cs ds r s B B' w hB1 hB2 hr hs

end Go.Proofs.YtcifdkliiljmkaaGreatDoor
