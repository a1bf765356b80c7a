/-
  A turner, if it is valid: the program's and the reference's (written by a program of this claim's own, gen_pre.py).
-/
import Derived.Test.YtnkhgfdlehhjmaaDoorSpecTurnK
import Derived.Test.YtnkhgfdlehhjmaaDoorPackB
import Derived.Test.YtnkhgfdlehhjmaaDoorSpecWritOkK
import Derived.Test.YtnkhgfdlehhjmaaDoorPackA
namespace Go.Proofs.YtnkhgfdlehhjmaaDoor
open Go.RowKit

set_option maxHeartbeats 1000000 in
theorem turnerOr_yes (cs : List Value) (r : Turner) (B : Nat) (w : World) (hB0 : B ≤ w.heap.size) (h : turnE.rd w B cs r) (hv : validTurn r = true) :
    Calls Tryd.prog 62 #[.agg cs.toArray] w (Gives (.tuple #[.agg cs.toArray, .int .i64 0]) w) := by
  have H0 := Lib.hid h
  obtain ⟨v2, rfl, -, -, h2⟩ := rd_Turner h
  obtain ⟨sa, sn, sc, rfl⟩ := rd_slice h2
  have H2 := Lib.hid h2
  have HV := Lib.hid hv
  clear h h2 hv
  have S := ((Star.nil w).alloc (cs := #[.int .i64 r.letters, .int .i64 r.start, .slice sa sn sc]) (ty := 32)).alloc (cs := #[.int .i64 0, .int .i64 0, .slice none 0 0]) (ty := 32)
  rw [World.size_alloc] at S
  go_enter Tryd.func62, Tryd.ntmps62
  go_wp2_with fail
  generalize hW : (w.alloc _).alloc _ = w0 at S ⊢
  clear hW
  have hb0 := S.below.size
  refine (validTurn_is true _ r B w0 (Nat.le_trans hB0 hb0) (turnE.rd_of (S.below.mono hB0) H0.out) HV.out).mono ?_
  rintro e w1 ⟨rfl, b⟩
  replace S := S.step b
  clear b
  have c0 := (S.blk 1 rfl).cell 0 rfl
  have c1 := (S.blk 1 rfl).cell 1 rfl
  have c2 := (S.blk 1 rfl).cell 2 rfl
  have A0 := S.blk 0 rfl
  have d0 := A0.cell 0 rfl
  have d1 := A0.cell 1 rfl
  have d2 := A0.cell 2 rfl
  have f0 := A0.free
  go_wp2
  generalize hW : ((w1.setCell _ _).setCell _ _).setCell _ _ = w3
  replace S := S.set3 rfl hW
  have A3 := S.blk 0 rfl
  have q0 := A3.cell 0 rfl
  have q1 := A3.cell 1 rfl
  have q2 := A3.cell 2 rfl
  exact bodyPost_ret (v := .tuple #[.agg #[.int .i64 r.letters, .int .i64 r.start, .slice sa sn sc], .int .i64 0]) (by simp [results, Tryd.results62, go_sem, q0, q1, q2]) rfl ⟨rfl, S.below⟩

set_option maxHeartbeats 1000000 in
theorem toldT_yes (cs : List Value) (r : Turner) (B : Nat) (w : World) (hB0 : B ≤ w.heap.size) (h : turnE.rd w B cs r) (hv : validTurn r = true) :
    Calls Tryd.prog 57 #[.agg cs.toArray] w (Gives (.tuple #[.agg cs.toArray, .int .i64 0]) w) := by
  have H0 := Lib.hid h
  obtain ⟨v2, rfl, -, -, h2⟩ := rd_Turner h
  obtain ⟨sa, sn, sc, rfl⟩ := rd_slice h2
  have H2 := Lib.hid h2
  have HV := Lib.hid hv
  clear h h2 hv
  have S := ((Star.nil w).alloc (cs := #[.int .i64 r.letters, .int .i64 r.start, .slice sa sn sc]) (ty := 32)).alloc (cs := #[.int .i64 0, .int .i64 0, .slice none 0 0]) (ty := 32)
  rw [World.size_alloc] at S
  go_enter Tryd.func57, Tryd.ntmps57
  go_wp2_with fail
  generalize hW : (w.alloc _).alloc _ = w0 at S ⊢
  clear hW
  have hb0 := S.below.size
  refine (l02Ok_is true _ r B _ w0 (S.blk 1 rfl).hd (movessE.rd_of (S.below.mono hB0) H2.out) HV.out).mono ?_
  rintro e w1 ⟨rfl, b⟩
  replace S := S.step b
  clear b
  have c0 := (S.blk 1 rfl).cell 0 rfl
  have c1 := (S.blk 1 rfl).cell 1 rfl
  have c2 := (S.blk 1 rfl).cell 2 rfl
  have A0 := S.blk 0 rfl
  have d0 := A0.cell 0 rfl
  have d1 := A0.cell 1 rfl
  have d2 := A0.cell 2 rfl
  have f0 := A0.free
  go_wp2
  generalize hW : ((w1.setCell _ _).setCell _ _).setCell _ _ = w3
  replace S := S.set3 rfl hW
  have A3 := S.blk 0 rfl
  have q0 := A3.cell 0 rfl
  have q1 := A3.cell 1 rfl
  have q2 := A3.cell 2 rfl
  exact bodyPost_ret (v := .tuple #[.agg #[.int .i64 r.letters, .int .i64 r.start, .slice sa sn sc], .int .i64 0]) (by simp [results, Tryd.results57, go_sem, q0, q1, q2]) rfl ⟨rfl, S.below⟩

set_option maxHeartbeats 1000000 in
theorem turnerOr_no (cs : List Value) (r : Turner) (B : Nat) (w : World) (hB0 : B ≤ w.heap.size) (h : turnE.rd w B cs r) (hv : validTurn r = false) :
    Calls Tryd.prog 62 #[.agg cs.toArray] w (Gives (.tuple #[.agg #[.int .i64 0, .int .i64 0, .slice none 0 0], .int .i64 3]) w) := by
  have H0 := Lib.hid h
  obtain ⟨v2, rfl, -, -, h2⟩ := rd_Turner h
  obtain ⟨sa, sn, sc, rfl⟩ := rd_slice h2
  have H2 := Lib.hid h2
  have HV := Lib.hid hv
  clear h h2 hv
  have S := ((Star.nil w).alloc (cs := #[.int .i64 r.letters, .int .i64 r.start, .slice sa sn sc]) (ty := 32)).alloc (cs := #[.int .i64 0, .int .i64 0, .slice none 0 0]) (ty := 32)
  rw [World.size_alloc] at S
  go_enter Tryd.func62, Tryd.ntmps62
  go_wp2_with fail
  generalize hW : (w.alloc _).alloc _ = w0 at S ⊢
  clear hW
  have hb0 := S.below.size
  refine (validTurn_is false _ r B w0 (Nat.le_trans hB0 hb0) (turnE.rd_of (S.below.mono hB0) H0.out) HV.out).mono ?_
  rintro e w1 ⟨rfl, b⟩
  replace S := S.step b
  clear b
  have c0 := (S.blk 1 rfl).cell 0 rfl
  have c1 := (S.blk 1 rfl).cell 1 rfl
  have c2 := (S.blk 1 rfl).cell 2 rfl
  have A0 := S.blk 0 rfl
  have d0 := A0.cell 0 rfl
  have d1 := A0.cell 1 rfl
  have d2 := A0.cell 2 rfl
  have f0 := A0.free
  go_wp2
  generalize hW : ((w1.setCell _ _).setCell _ _).setCell _ _ = w3
  replace S := S.set3 rfl hW
  have A3 := S.blk 0 rfl
  have q0 := A3.cell 0 rfl
  have q1 := A3.cell 1 rfl
  have q2 := A3.cell 2 rfl
  exact bodyPost_ret (v := .tuple #[.agg #[.int .i64 0, .int .i64 0, .slice none 0 0], .int .i64 3]) (by simp [results, Tryd.results62, go_sem, q0, q1, q2]) rfl ⟨rfl, S.below⟩

set_option maxHeartbeats 1000000 in
theorem toldT_no (cs : List Value) (r : Turner) (B : Nat) (w : World) (hB0 : B ≤ w.heap.size) (h : turnE.rd w B cs r) (hv : validTurn r = false) :
    Calls Tryd.prog 57 #[.agg cs.toArray] w (Gives (.tuple #[.agg #[.int .i64 0, .int .i64 0, .slice none 0 0], .int .i64 3]) w) := by
  have H0 := Lib.hid h
  obtain ⟨v2, rfl, -, -, h2⟩ := rd_Turner h
  obtain ⟨sa, sn, sc, rfl⟩ := rd_slice h2
  have H2 := Lib.hid h2
  have HV := Lib.hid hv
  clear h h2 hv
  have S := ((Star.nil w).alloc (cs := #[.int .i64 r.letters, .int .i64 r.start, .slice sa sn sc]) (ty := 32)).alloc (cs := #[.int .i64 0, .int .i64 0, .slice none 0 0]) (ty := 32)
  rw [World.size_alloc] at S
  go_enter Tryd.func57, Tryd.ntmps57
  go_wp2_with fail
  generalize hW : (w.alloc _).alloc _ = w0 at S ⊢
  clear hW
  have hb0 := S.below.size
  refine (l02Ok_is false _ r B _ w0 (S.blk 1 rfl).hd (movessE.rd_of (S.below.mono hB0) H2.out) HV.out).mono ?_
  rintro e w1 ⟨rfl, b⟩
  replace S := S.step b
  clear b
  have c0 := (S.blk 1 rfl).cell 0 rfl
  have c1 := (S.blk 1 rfl).cell 1 rfl
  have c2 := (S.blk 1 rfl).cell 2 rfl
  have A0 := S.blk 0 rfl
  have d0 := A0.cell 0 rfl
  have d1 := A0.cell 1 rfl
  have d2 := A0.cell 2 rfl
  have f0 := A0.free
  go_wp2
  generalize hW : ((w1.setCell _ _).setCell _ _).setCell _ _ = w3
  replace S := S.set3 rfl hW
  have A3 := S.blk 0 rfl
  have q0 := A3.cell 0 rfl
  have q1 := A3.cell 1 rfl
  have q2 := A3.cell 2 rfl
  exact bodyPost_ret (v := .tuple #[.agg #[.int .i64 0, .int .i64 0, .slice none 0 0], .int .i64 3]) (by simp [results, Tryd.results57, go_sem, q0, q1, q2]) rfl ⟨rfl, S.below⟩

end Go.Proofs.YtnkhgfdlehhjmaaDoor
