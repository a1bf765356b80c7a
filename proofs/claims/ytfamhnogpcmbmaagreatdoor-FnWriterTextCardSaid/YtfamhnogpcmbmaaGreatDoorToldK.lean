/-
  A writer, if it is valid: the program's and the reference's (written by a program of this claim's own, gen_told.py).
-/
import Derived.Test.YtfamhnogpcmbmaaGreatDoorSpecWritOkK
import Derived.Test.YtfamhnogpcmbmaaGreatDoorPackA
namespace Go.Proofs.YtfamhnogpcmbmaaGreatDoor
open Go.RowKit

theorem validWriter_is (b : Bool) (cs : List Value) (r : Writer) (B : Nat) (w : World) (hB0 : B ≤ w.heap.size) (h : writE.rd w B cs r) (hb : writerOk r = b) :
    Calls Tryz.prog 11 #[.agg cs.toArray] w (Gives (.bool b) w) := hb ▸ validWriter_any cs r B w hB0 h
theorem l07Ok_is (b : Bool) (v2 v3 : Value) (r : Writer) (B g : Nat) (w : World) (hB0 : B ≤ w.heap.size) (hA0 : Blk w g [.int .i64 r.turner.letters, .int .i64 r.turner.start, v2, v3] 29)
    (k2 : movessE.rd w B [v2] r.turner.moves) (h3 : strssE.rd w B [v3] r.out) (hb : writerOk r = b) :
    Calls Tryz.prog 32 #[.pointer (some ⟨g, 0, none⟩)] w (Gives (.bool b) w) := hb ▸ l07Ok_any v2 v3 r B g w hB0 hA0 k2 h3

set_option maxHeartbeats 1000000 in
theorem told_yes (cs : List Value) (r : Writer) (B : Nat) (w : World) (hB0 : B ≤ w.heap.size) (h : writE.rd w B cs r) (hv : writerOk r = true) :
    Calls Tryz.prog 74 #[.agg cs.toArray] w (Gives (.tuple #[.agg cs.toArray, .int .i64 0]) w) := by
  have H0 := Lib.hid h
  obtain ⟨v2, v3, rfl, -, -, h2, h3⟩ := rd_WriterF h
  obtain ⟨sa, sn, sc, rfl⟩ := rd_slice h2
  obtain ⟨ta, tn, tc, rfl⟩ := rd_slice h3
  have H2 := Lib.hid h2
  have H3 := Lib.hid h3
  have HV := Lib.hid hv
  clear h h2 h3 hv
  have S := ((Star.nil w).alloc (cs := #[.int .i64 r.turner.letters, .int .i64 r.turner.start, .slice sa sn sc, .slice ta tn tc]) (ty := 29)).alloc (cs := #[.int .i64 0, .int .i64 0, .slice none 0 0, .slice none 0 0]) (ty := 29)
  rw [World.size_alloc] at S
  go_enter Tryz.func74, Tryz.ntmps74
  go_wp2_with fail
  generalize hW : (w.alloc _).alloc _ = w0 at S ⊢
  clear hW
  have hb0 := S.below.size
  refine (l07Ok_is true _ _ r B _ w0 (Nat.le_trans hB0 hb0) (S.blk 1 rfl) (movessE.rd_of (S.below.mono hB0) H2.out) (strssE.rd_of (S.below.mono hB0) H3.out) HV.out).mono ?_
  rintro e w1 ⟨rfl, b⟩
  replace S := S.step b
  clear b
  have c0 := (S.blk 1 rfl).cell 0 rfl
  have c1 := (S.blk 1 rfl).cell 1 rfl
  have c2 := (S.blk 1 rfl).cell 2 rfl
  have c3 := (S.blk 1 rfl).cell 3 rfl
  have A0 := S.blk 0 rfl
  have d0 := A0.cell 0 rfl
  have d1 := A0.cell 1 rfl
  have d2 := A0.cell 2 rfl
  have d3 := A0.cell 3 rfl
  have f0 := A0.free
  go_wp2
  generalize hW : (((w1.setCell _ _).setCell _ _).setCell _ _).setCell _ _ = w3
  replace S := S.set4 rfl hW
  have A3 := S.blk 0 rfl
  have q0 := A3.cell 0 rfl
  have q1 := A3.cell 1 rfl
  have q2 := A3.cell 2 rfl
  have q3 := A3.cell 3 rfl
  exact bodyPost_ret (v := .tuple #[.agg #[.int .i64 r.turner.letters, .int .i64 r.turner.start, .slice sa sn sc, .slice ta tn tc], .int .i64 0]) (by simp [results, Tryz.results74, go_sem, q0, q1, q2, q3]) rfl ⟨rfl, S.below⟩

set_option maxHeartbeats 1000000 in
theorem told_no (cs : List Value) (r : Writer) (B : Nat) (w : World) (hB0 : B ≤ w.heap.size) (h : writE.rd w B cs r) (hv : writerOk r = false) :
    Calls Tryz.prog 74 #[.agg cs.toArray] w (Gives (.tuple #[.agg #[.int .i64 0, .int .i64 0, .slice none 0 0, .slice none 0 0], .int .i64 3]) w) := by
  have H0 := Lib.hid h
  obtain ⟨v2, v3, rfl, -, -, h2, h3⟩ := rd_WriterF h
  obtain ⟨sa, sn, sc, rfl⟩ := rd_slice h2
  obtain ⟨ta, tn, tc, rfl⟩ := rd_slice h3
  have H2 := Lib.hid h2
  have H3 := Lib.hid h3
  have HV := Lib.hid hv
  clear h h2 h3 hv
  have S := ((Star.nil w).alloc (cs := #[.int .i64 r.turner.letters, .int .i64 r.turner.start, .slice sa sn sc, .slice ta tn tc]) (ty := 29)).alloc (cs := #[.int .i64 0, .int .i64 0, .slice none 0 0, .slice none 0 0]) (ty := 29)
  rw [World.size_alloc] at S
  go_enter Tryz.func74, Tryz.ntmps74
  go_wp2_with fail
  generalize hW : (w.alloc _).alloc _ = w0 at S ⊢
  clear hW
  have hb0 := S.below.size
  refine (l07Ok_is false _ _ r B _ w0 (Nat.le_trans hB0 hb0) (S.blk 1 rfl) (movessE.rd_of (S.below.mono hB0) H2.out) (strssE.rd_of (S.below.mono hB0) H3.out) HV.out).mono ?_
  rintro e w1 ⟨rfl, b⟩
  replace S := S.step b
  clear b
  have c0 := (S.blk 1 rfl).cell 0 rfl
  have c1 := (S.blk 1 rfl).cell 1 rfl
  have c2 := (S.blk 1 rfl).cell 2 rfl
  have c3 := (S.blk 1 rfl).cell 3 rfl
  have A0 := S.blk 0 rfl
  have d0 := A0.cell 0 rfl
  have d1 := A0.cell 1 rfl
  have d2 := A0.cell 2 rfl
  have d3 := A0.cell 3 rfl
  have f0 := A0.free
  go_wp2
  generalize hW : (((w1.setCell _ _).setCell _ _).setCell _ _).setCell _ _ = w3
  replace S := S.set4 rfl hW
  have A3 := S.blk 0 rfl
  have q0 := A3.cell 0 rfl
  have q1 := A3.cell 1 rfl
  have q2 := A3.cell 2 rfl
  have q3 := A3.cell 3 rfl
  exact bodyPost_ret (v := .tuple #[.agg #[.int .i64 0, .int .i64 0, .slice none 0 0, .slice none 0 0], .int .i64 3]) (by simp [results, Tryz.results74, go_sem, q0, q1, q2, q3]) rfl ⟨rfl, S.below⟩

theorem rd_writE {w : World} {B : Nat} {v2 v3 : Value} {r : Writer} (h2 : movessE.rd w B [v2] r.turner.moves) (h3 : strssE.rd w B [v3] r.out) (b0 : -9223372036854775808 ≤ r.turner.letters ∧ r.turner.letters ≤ 9223372036854775807) (b1 : -9223372036854775808 ≤ r.turner.start ∧ r.turner.start ≤ 9223372036854775807) :
    writE.rd w B [.int .i64 r.turner.letters, .int .i64 r.turner.start, v2, v3] r :=
  ⟨[_, _, v2], [v3], rfl, ⟨[_], [_, v2], rfl, ⟨rfl, b0⟩, ⟨[_], [v2], rfl, ⟨rfl, b1⟩, h2⟩⟩, h3⟩

end Go.Proofs.YtfamhnogpcmbmaaGreatDoor
