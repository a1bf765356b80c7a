/-
  The law FnExactJoinWriters: whatever the input, it returns true and leaves what was there as it was (written by a program of this claim's own, gen_res.py).
-/
import Derived.Test.YtnkhgfdlehhjmaaDoorJoinIK
import Derived.Test.YtnkhgfdlehhjmaaDoorJoinSK
import Derived.Test.YtnkhgfdlehhjmaaDoorMWriterK
import Derived.Test.YtnkhgfdlehhjmaaDoorEWriterK
import Derived.Test.YtnkhgfdlehhjmaaDoorPackB
import Derived.Test.YtnkhgfdlehhjmaaDoorCntWRK
import Derived.Test.YtnkhgfdlehhjmaaDoorPackA
namespace Go.Proofs.YtnkhgfdlehhjmaaDoor
open Go.RowKit

set_option maxHeartbeats 4000000 in
set_option maxRecDepth 100000 in
theorem lawJoinWriters_any (c0 : List Value) (r0 : Writer) (c1 : List Value) (r1 : Writer) (w : World) (h0 : writE.rd w w.heap.size c0 r0) (h1 : writE.rd w w.heap.size c1 r1) :
    Calls Tryd.prog 4 #[.agg c0.toArray, .agg c1.toArray] w (Gives (.bool true) w) := by
  have R0 := Lib.hid h0
  obtain ⟨p0v2, p0v3, rfl, -, -, p0h2, p0h3⟩ := rd_WriterF h0
  obtain ⟨p0a2, p0n2, p0c2, rfl⟩ := rd_slice p0h2
  obtain ⟨p0a3, p0n3, p0c3, rfl⟩ := rd_slice p0h3
  clear h0 p0h2 p0h3
  obtain ⟨t0, ht⟩ : ∃ t, t = totWriter r0 := ⟨_, rfl⟩
  have HT0 := Lib.hid ht; clear ht
  have hok0 := Lib.hid (fun h : ¬ 1048576 < t0 => ok_of_totWriter (r := r0) (by rw [← HT0.out]; exact h))
  have R1 := Lib.hid h1
  obtain ⟨p1v2, p1v3, rfl, -, -, p1h2, p1h3⟩ := rd_WriterF h1
  obtain ⟨p1a2, p1n2, p1c2, rfl⟩ := rd_slice p1h2
  obtain ⟨p1a3, p1n3, p1c3, rfl⟩ := rd_slice p1h3
  clear h1 p1h2 p1h3
  obtain ⟨t1, ht⟩ : ∃ t, t = totWriter r1 := ⟨_, rfl⟩
  have HT1 := Lib.hid ht; clear ht
  have hok1 := Lib.hid (fun h : ¬ 1048576 < t1 => ok_of_totWriter (r := r1) (by rw [← HT1.out]; exact h))
  obtain ⟨rs, hrs⟩ : ∃ x, x = joinWriters r0 r1 := ⟨_, rfl⟩
  have HRS : Hid (joinWriters r0 r1 = rs) := Lib.hid hrs.symm
  have HCNT : Hid (writM.cnt rs.1 ≤ 4611686018427387000) := Lib.hid (by rw [hrs]; exact cnt_joinWriters _ _)
  clear hrs
  go_enter Tryd.func4, Tryd.ntmps4
  have B : Below w.heap.size w w := Below.refl _ _
  go_wp2_with fail
  generalize hW : (w.alloc _).alloc _ = u1
  obtain ⟨A0, A1, b⟩ := blk2 hW
  clear hW
  have z0 := b.size
  replace B := b
  clear b
  have lA0 := A0.lt
  have lA1 := A1.lt
  refine (szWriter_any _ r0 w.heap.size _ _ B.size (writE.rd_of B R0.out) (by omega) (by omega)).mono ?_
  rintro e u2 ⟨rfl, b⟩
  have z1 := b.size
  replace B := B.trans (b.mono B.size)
  replace A0 := A0.of b A0.lt
  replace A1 := A1.of b A1.lt
  clear b
  by_cases hbig0 : (1048576 : Int) < t0
  case pos =>
    rw [lim_of_lt (by rw [← HT0.out]; omega)]
    go_wp2
    go_ret
    exact ⟨rfl, B⟩
  rw [lim_of_ge (by rw [← HT0.out]; omega), ← HT0.out]
  obtain ⟨q0, hq0⟩ : ∃ q : Int, q = 1048576 - (t0 : Int) := ⟨_, rfl⟩
  rw [← hq0]
  have hn0 : ¬ q0 < 0 := by omega
  have g0a : 0 ≤ q0 := by omega
  have g0b : q0 ≤ 1048576 := by omega
  have HQ0 := Lib.hid hq0; clear hq0
  have dA10 := A1.cell 0 rfl
  have dA11 := A1.cell 1 rfl
  have dA12 := A1.cell 2 rfl
  have dA13 := A1.cell 3 rfl
  go_wp2_with fail
  clear dA10 dA11 dA12 dA13
  refine (szWriter_any _ r1 w.heap.size _ _ B.size (writE.rd_of B R1.out) (by omega) (by omega)).mono ?_
  rintro e u3 ⟨rfl, b⟩
  have z2 := b.size
  replace B := B.trans (b.mono B.size)
  replace A0 := A0.of b A0.lt
  replace A1 := A1.of b A1.lt
  clear b
  by_cases hbig1 : q0 < t1
  case pos =>
    rw [lim_of_lt (by rw [← HT1.out]; omega)]
    go_wp2
    go_ret
    exact ⟨rfl, B⟩
  rw [lim_of_ge (by rw [← HT1.out]; omega), ← HT1.out]
  obtain ⟨q1, hq1⟩ : ∃ q : Int, q = q0 - (t1 : Int) := ⟨_, rfl⟩
  rw [← hq1]
  have hn1 : ¬ q1 < 0 := by omega
  have g1a : 0 ≤ q1 := by omega
  have g1b : q1 ≤ 1048576 := by omega
  have HQ1 := Lib.hid hq1; clear hq1
  go_wp2_with fail
  have ht0 : t0 ≤ 1048576 := by have := HQ0.out; have := HQ1.out; omega
  replace hok0 := Lib.hid (hok0.out (by omega))
  have ht1 : t1 ≤ 1048576 := by have := HQ0.out; have := HQ1.out; omega
  replace hok1 := Lib.hid (hok1.out (by omega))
  clear hn0 hbig0 hn1 hbig1
  -- the reference
  have HA0 := Lib.hid A0; clear A0
  have HA1 := Lib.hid A1; clear A1
  have HB := Lib.hid B; have hb := B.size; clear B
  have k0 : ((u3).cell? ⟨w.heap.size, 0, none⟩ = some (.int .i64 r0.turner.letters) ∧ (u3).cell? ⟨w.heap.size, 1, none⟩ = some (.int .i64 r0.turner.start) ∧ (u3).cell? ⟨w.heap.size, 2, none⟩ = some (.slice p0a2 p0n2 p0c2) ∧ (u3).cell? ⟨w.heap.size, 3, none⟩ = some (.slice p0a3 p0n3 p0c3) ∧ (u3).cell? ⟨w.heap.size + 1, 0, none⟩ = some (.int .i64 r1.turner.letters) ∧ (u3).cell? ⟨w.heap.size + 1, 1, none⟩ = some (.int .i64 r1.turner.start) ∧ (u3).cell? ⟨w.heap.size + 1, 2, none⟩ = some (.slice p1a2 p1n2 p1c2) ∧ (u3).cell? ⟨w.heap.size + 1, 3, none⟩ = some (.slice p1a3 p1n3 p1c3)) := ⟨HA0.out.cell 0 rfl, HA0.out.cell 1 rfl, HA0.out.cell 2 rfl, HA0.out.cell 3 rfl, HA1.out.cell 0 rfl, HA1.out.cell 1 rfl, HA1.out.cell 2 rfl, HA1.out.cell 3 rfl⟩
  have k0a := fun o => (⟨cell_al (k0.1) o, cell_al (k0.2.1) o, cell_al (k0.2.2.1) o, cell_al (k0.2.2.2.1) o, cell_al (k0.2.2.2.2.1) o, cell_al (k0.2.2.2.2.2.1) o, cell_al (k0.2.2.2.2.2.2.1) o, cell_al (k0.2.2.2.2.2.2.2) o⟩ : (((u3).alloc o).cell? ⟨w.heap.size, 0, none⟩ = some (.int .i64 r0.turner.letters) ∧ ((u3).alloc o).cell? ⟨w.heap.size, 1, none⟩ = some (.int .i64 r0.turner.start) ∧ ((u3).alloc o).cell? ⟨w.heap.size, 2, none⟩ = some (.slice p0a2 p0n2 p0c2) ∧ ((u3).alloc o).cell? ⟨w.heap.size, 3, none⟩ = some (.slice p0a3 p0n3 p0c3) ∧ ((u3).alloc o).cell? ⟨w.heap.size + 1, 0, none⟩ = some (.int .i64 r1.turner.letters) ∧ ((u3).alloc o).cell? ⟨w.heap.size + 1, 1, none⟩ = some (.int .i64 r1.turner.start) ∧ ((u3).alloc o).cell? ⟨w.heap.size + 1, 2, none⟩ = some (.slice p1a2 p1n2 p1c2) ∧ ((u3).alloc o).cell? ⟨w.heap.size + 1, 3, none⟩ = some (.slice p1a3 p1n3 p1c3)))
  go_cut [6, 7] (fun s6 s7 wx => ∃ g : Nat, ∃ wwa2 wwn2 wwc2 wwa3 wwn3 wwc3, s6 = .pointer (some ⟨g, 0, none⟩) ∧ s7 = .int .i64 rs.2 ∧ Star u3 wx [oB g [.int .i64 rs.1.turner.letters, .int .i64 rs.1.turner.start, .slice wwa2 wwn2 wwc2, .slice wwa3 wwn3 wwc3] 34, oE writE [.int .i64 rs.1.turner.letters, .int .i64 rs.1.turner.start, .slice wwa2 wwn2 wwc2, .slice wwa3 wwn3 wwc3] rs.1])
  case first =>
    go_region_held3 (fun w' => w'.cell? ⟨w.heap.size, 0, none⟩ = some (.int .i64 r0.turner.letters) ∧ w'.cell? ⟨w.heap.size, 1, none⟩ = some (.int .i64 r0.turner.start) ∧ w'.cell? ⟨w.heap.size, 2, none⟩ = some (.slice p0a2 p0n2 p0c2) ∧ w'.cell? ⟨w.heap.size, 3, none⟩ = some (.slice p0a3 p0n3 p0c3) ∧ w'.cell? ⟨w.heap.size + 1, 0, none⟩ = some (.int .i64 r1.turner.letters) ∧ w'.cell? ⟨w.heap.size + 1, 1, none⟩ = some (.int .i64 r1.turner.start) ∧ w'.cell? ⟨w.heap.size + 1, 2, none⟩ = some (.slice p1a2 p1n2 p1c2) ∧ w'.cell? ⟨w.heap.size + 1, 3, none⟩ = some (.slice p1a3 p1n3 p1c3))
      (first
        | (with_reducible exact k0)
        | (with_reducible exact k0a _)
        | (with_reducible exact kv0)
        | (with_reducible exact kv0a _)
        | (with_reducible exact kv1)
        | (with_reducible exact kv1a _)
        | (with_reducible exact kv2)
        | (with_reducible exact kv2a _)
        | (with_reducible exact kv0a)
        | (with_reducible exact kv0aa _)
        | (with_reducible exact kv1a)
        | (with_reducible exact kv1aa _)
        | (with_reducible exact kv2a)
        | (with_reducible exact kv2aa _)
        | exact ⟨(HA0.out.of ((Sv2a.sel [3, 0]).set4 rfl rfl).below HA0.out.lt).cell 0 rfl, (HA0.out.of ((Sv2a.sel [3, 0]).set4 rfl rfl).below HA0.out.lt).cell 1 rfl, (HA0.out.of ((Sv2a.sel [3, 0]).set4 rfl rfl).below HA0.out.lt).cell 2 rfl, (HA0.out.of ((Sv2a.sel [3, 0]).set4 rfl rfl).below HA0.out.lt).cell 3 rfl, (HA1.out.of ((Sv2a.sel [3, 0]).set4 rfl rfl).below HA1.out.lt).cell 0 rfl, (HA1.out.of ((Sv2a.sel [3, 0]).set4 rfl rfl).below HA1.out.lt).cell 1 rfl, (HA1.out.of ((Sv2a.sel [3, 0]).set4 rfl rfl).below HA1.out.lt).cell 2 rfl, (HA1.out.of ((Sv2a.sel [3, 0]).set4 rfl rfl).below HA1.out.lt).cell 3 rfl⟩
        | (with_reducible exact kv1b)
        | (with_reducible exact kv1ba _)
        | (with_reducible exact kv2b)
        | (with_reducible exact kv2ba _)
        | exact ⟨(HA0.out.of ((Sv2b.sel [2, 0]).set4 rfl rfl).below HA0.out.lt).cell 0 rfl, (HA0.out.of ((Sv2b.sel [2, 0]).set4 rfl rfl).below HA0.out.lt).cell 1 rfl, (HA0.out.of ((Sv2b.sel [2, 0]).set4 rfl rfl).below HA0.out.lt).cell 2 rfl, (HA0.out.of ((Sv2b.sel [2, 0]).set4 rfl rfl).below HA0.out.lt).cell 3 rfl, (HA1.out.of ((Sv2b.sel [2, 0]).set4 rfl rfl).below HA1.out.lt).cell 0 rfl, (HA1.out.of ((Sv2b.sel [2, 0]).set4 rfl rfl).below HA1.out.lt).cell 1 rfl, (HA1.out.of ((Sv2b.sel [2, 0]).set4 rfl rfl).below HA1.out.lt).cell 2 rfl, (HA1.out.of ((Sv2b.sel [2, 0]).set4 rfl rfl).below HA1.out.lt).cell 3 rfl⟩
        | (with_reducible exact kv2c)
        | (with_reducible exact kv2ca _)
        | exact ⟨(HA0.out.of ((Sv2c.sel [1, 0]).set4 rfl rfl).below HA0.out.lt).cell 0 rfl, (HA0.out.of ((Sv2c.sel [1, 0]).set4 rfl rfl).below HA0.out.lt).cell 1 rfl, (HA0.out.of ((Sv2c.sel [1, 0]).set4 rfl rfl).below HA0.out.lt).cell 2 rfl, (HA0.out.of ((Sv2c.sel [1, 0]).set4 rfl rfl).below HA0.out.lt).cell 3 rfl, (HA1.out.of ((Sv2c.sel [1, 0]).set4 rfl rfl).below HA1.out.lt).cell 0 rfl, (HA1.out.of ((Sv2c.sel [1, 0]).set4 rfl rfl).below HA1.out.lt).cell 1 rfl, (HA1.out.of ((Sv2c.sel [1, 0]).set4 rfl rfl).below HA1.out.lt).cell 2 rfl, (HA1.out.of ((Sv2c.sel [1, 0]).set4 rfl rfl).below HA1.out.lt).cell 3 rfl⟩
        | go_keep)
      (first
        | (go_at_call 7
           with_reducible show Calls _ _ _ (World.drew u3) _
           refine (toWriter_any _ r0 w.heap.size _ (by exact Nat.le_trans hb ((Star.nil u3).drew).below.size) (by exact writE.rd_of (HB.out.trans (((Star.nil u3).drew).below.mono hb)) R0.out) hok0.out).mono ?_
           rintro e wv0 ⟨xv0, fv0, rfl, ov0, ndv0, lov0, bv0⟩
           have Sv0 := ((Star.nil u3).drew).made ov0 ndv0 lov0 bv0
           have kv0 : ((wv0).cell? ⟨w.heap.size, 0, none⟩ = some (.int .i64 r0.turner.letters) ∧ (wv0).cell? ⟨w.heap.size, 1, none⟩ = some (.int .i64 r0.turner.start) ∧ (wv0).cell? ⟨w.heap.size, 2, none⟩ = some (.slice p0a2 p0n2 p0c2) ∧ (wv0).cell? ⟨w.heap.size, 3, none⟩ = some (.slice p0a3 p0n3 p0c3) ∧ (wv0).cell? ⟨w.heap.size + 1, 0, none⟩ = some (.int .i64 r1.turner.letters) ∧ (wv0).cell? ⟨w.heap.size + 1, 1, none⟩ = some (.int .i64 r1.turner.start) ∧ (wv0).cell? ⟨w.heap.size + 1, 2, none⟩ = some (.slice p1a2 p1n2 p1c2) ∧ (wv0).cell? ⟨w.heap.size + 1, 3, none⟩ = some (.slice p1a3 p1n3 p1c3)) := ⟨(HA0.out.of (Sv0).below HA0.out.lt).cell 0 rfl, (HA0.out.of (Sv0).below HA0.out.lt).cell 1 rfl, (HA0.out.of (Sv0).below HA0.out.lt).cell 2 rfl, (HA0.out.of (Sv0).below HA0.out.lt).cell 3 rfl, (HA1.out.of (Sv0).below HA1.out.lt).cell 0 rfl, (HA1.out.of (Sv0).below HA1.out.lt).cell 1 rfl, (HA1.out.of (Sv0).below HA1.out.lt).cell 2 rfl, (HA1.out.of (Sv0).below HA1.out.lt).cell 3 rfl⟩
           have kv0a := fun o => (⟨cell_al (kv0.1) o, cell_al (kv0.2.1) o, cell_al (kv0.2.2.1) o, cell_al (kv0.2.2.2.1) o, cell_al (kv0.2.2.2.2.1) o, cell_al (kv0.2.2.2.2.2.1) o, cell_al (kv0.2.2.2.2.2.2.1) o, cell_al (kv0.2.2.2.2.2.2.2) o⟩ : (((wv0).alloc o).cell? ⟨w.heap.size, 0, none⟩ = some (.int .i64 r0.turner.letters) ∧ ((wv0).alloc o).cell? ⟨w.heap.size, 1, none⟩ = some (.int .i64 r0.turner.start) ∧ ((wv0).alloc o).cell? ⟨w.heap.size, 2, none⟩ = some (.slice p0a2 p0n2 p0c2) ∧ ((wv0).alloc o).cell? ⟨w.heap.size, 3, none⟩ = some (.slice p0a3 p0n3 p0c3) ∧ ((wv0).alloc o).cell? ⟨w.heap.size + 1, 0, none⟩ = some (.int .i64 r1.turner.letters) ∧ ((wv0).alloc o).cell? ⟨w.heap.size + 1, 1, none⟩ = some (.int .i64 r1.turner.start) ∧ ((wv0).alloc o).cell? ⟨w.heap.size + 1, 2, none⟩ = some (.slice p1a2 p1n2 p1c2) ∧ ((wv0).alloc o).cell? ⟨w.heap.size + 1, 3, none⟩ = some (.slice p1a3 p1n3 p1c3)))
           have o' := writE.rd_ow ov0
           obtain ⟨y0v2, y0v3, rfl, -, -, y0h2, y0h3⟩ := rd_WriterF o'
           obtain ⟨y0a2, y0n2, y0c2, rfl⟩ := rd_slice y0h2
           obtain ⟨y0a3, y0n3, y0c3, rfl⟩ := rd_slice y0h3
           clear o' y0h2 y0h3)
        | (go_at_call 7
           with_reducible show Calls _ _ _ wv0 _
           refine (toWriter_any _ r1 w.heap.size _ (by exact Nat.le_trans hb (Sv0).below.size) (by exact writE.rd_of (HB.out.trans ((Sv0).below.mono hb)) R1.out) hok1.out).mono ?_
           rintro e wv1 ⟨xv1, fv1, rfl, ov1, ndv1, lov1, bv1⟩
           have Sv1 := (Sv0).made ov1 ndv1 lov1 bv1
           have kv1 : ((wv1).cell? ⟨w.heap.size, 0, none⟩ = some (.int .i64 r0.turner.letters) ∧ (wv1).cell? ⟨w.heap.size, 1, none⟩ = some (.int .i64 r0.turner.start) ∧ (wv1).cell? ⟨w.heap.size, 2, none⟩ = some (.slice p0a2 p0n2 p0c2) ∧ (wv1).cell? ⟨w.heap.size, 3, none⟩ = some (.slice p0a3 p0n3 p0c3) ∧ (wv1).cell? ⟨w.heap.size + 1, 0, none⟩ = some (.int .i64 r1.turner.letters) ∧ (wv1).cell? ⟨w.heap.size + 1, 1, none⟩ = some (.int .i64 r1.turner.start) ∧ (wv1).cell? ⟨w.heap.size + 1, 2, none⟩ = some (.slice p1a2 p1n2 p1c2) ∧ (wv1).cell? ⟨w.heap.size + 1, 3, none⟩ = some (.slice p1a3 p1n3 p1c3)) := ⟨(HA0.out.of (Sv1).below HA0.out.lt).cell 0 rfl, (HA0.out.of (Sv1).below HA0.out.lt).cell 1 rfl, (HA0.out.of (Sv1).below HA0.out.lt).cell 2 rfl, (HA0.out.of (Sv1).below HA0.out.lt).cell 3 rfl, (HA1.out.of (Sv1).below HA1.out.lt).cell 0 rfl, (HA1.out.of (Sv1).below HA1.out.lt).cell 1 rfl, (HA1.out.of (Sv1).below HA1.out.lt).cell 2 rfl, (HA1.out.of (Sv1).below HA1.out.lt).cell 3 rfl⟩
           have kv1a := fun o => (⟨cell_al (kv1.1) o, cell_al (kv1.2.1) o, cell_al (kv1.2.2.1) o, cell_al (kv1.2.2.2.1) o, cell_al (kv1.2.2.2.2.1) o, cell_al (kv1.2.2.2.2.2.1) o, cell_al (kv1.2.2.2.2.2.2.1) o, cell_al (kv1.2.2.2.2.2.2.2) o⟩ : (((wv1).alloc o).cell? ⟨w.heap.size, 0, none⟩ = some (.int .i64 r0.turner.letters) ∧ ((wv1).alloc o).cell? ⟨w.heap.size, 1, none⟩ = some (.int .i64 r0.turner.start) ∧ ((wv1).alloc o).cell? ⟨w.heap.size, 2, none⟩ = some (.slice p0a2 p0n2 p0c2) ∧ ((wv1).alloc o).cell? ⟨w.heap.size, 3, none⟩ = some (.slice p0a3 p0n3 p0c3) ∧ ((wv1).alloc o).cell? ⟨w.heap.size + 1, 0, none⟩ = some (.int .i64 r1.turner.letters) ∧ ((wv1).alloc o).cell? ⟨w.heap.size + 1, 1, none⟩ = some (.int .i64 r1.turner.start) ∧ ((wv1).alloc o).cell? ⟨w.heap.size + 1, 2, none⟩ = some (.slice p1a2 p1n2 p1c2) ∧ ((wv1).alloc o).cell? ⟨w.heap.size + 1, 3, none⟩ = some (.slice p1a3 p1n3 p1c3)))
           have o' := writE.rd_ow ov1
           obtain ⟨y1v2, y1v3, rfl, -, -, y1h2, y1h3⟩ := rd_WriterF o'
           obtain ⟨y1a2, y1n2, y1c2, rfl⟩ := rd_slice y1h2
           obtain ⟨y1a3, y1n3, y1c3, rfl⟩ := rd_slice y1h3
           clear o' y1h2 y1h3)
        | (go_at_call 10
           with_reducible show Calls _ _ _ wv1 _
           refine (specJoinWriters_is rs _ r0 _ r1 _ _ (Nat.le_refl _) (by exact (Sv1).rd 1 rfl) (by exact (Sv1).rd 0 rfl) HRS.out).mono ?_
           rintro e wv2 ⟨xv2, fv2, rfl, ov2, ndv2, lov2, bv2⟩
           have Sv2 := (Sv1).made ov2 ndv2 lov2 bv2
           have kv2 : ((wv2).cell? ⟨w.heap.size, 0, none⟩ = some (.int .i64 r0.turner.letters) ∧ (wv2).cell? ⟨w.heap.size, 1, none⟩ = some (.int .i64 r0.turner.start) ∧ (wv2).cell? ⟨w.heap.size, 2, none⟩ = some (.slice p0a2 p0n2 p0c2) ∧ (wv2).cell? ⟨w.heap.size, 3, none⟩ = some (.slice p0a3 p0n3 p0c3) ∧ (wv2).cell? ⟨w.heap.size + 1, 0, none⟩ = some (.int .i64 r1.turner.letters) ∧ (wv2).cell? ⟨w.heap.size + 1, 1, none⟩ = some (.int .i64 r1.turner.start) ∧ (wv2).cell? ⟨w.heap.size + 1, 2, none⟩ = some (.slice p1a2 p1n2 p1c2) ∧ (wv2).cell? ⟨w.heap.size + 1, 3, none⟩ = some (.slice p1a3 p1n3 p1c3)) := ⟨(HA0.out.of (Sv2).below HA0.out.lt).cell 0 rfl, (HA0.out.of (Sv2).below HA0.out.lt).cell 1 rfl, (HA0.out.of (Sv2).below HA0.out.lt).cell 2 rfl, (HA0.out.of (Sv2).below HA0.out.lt).cell 3 rfl, (HA1.out.of (Sv2).below HA1.out.lt).cell 0 rfl, (HA1.out.of (Sv2).below HA1.out.lt).cell 1 rfl, (HA1.out.of (Sv2).below HA1.out.lt).cell 2 rfl, (HA1.out.of (Sv2).below HA1.out.lt).cell 3 rfl⟩
           have kv2a := fun o => (⟨cell_al (kv2.1) o, cell_al (kv2.2.1) o, cell_al (kv2.2.2.1) o, cell_al (kv2.2.2.2.1) o, cell_al (kv2.2.2.2.2.1) o, cell_al (kv2.2.2.2.2.2.1) o, cell_al (kv2.2.2.2.2.2.2.1) o, cell_al (kv2.2.2.2.2.2.2.2) o⟩ : (((wv2).alloc o).cell? ⟨w.heap.size, 0, none⟩ = some (.int .i64 r0.turner.letters) ∧ ((wv2).alloc o).cell? ⟨w.heap.size, 1, none⟩ = some (.int .i64 r0.turner.start) ∧ ((wv2).alloc o).cell? ⟨w.heap.size, 2, none⟩ = some (.slice p0a2 p0n2 p0c2) ∧ ((wv2).alloc o).cell? ⟨w.heap.size, 3, none⟩ = some (.slice p0a3 p0n3 p0c3) ∧ ((wv2).alloc o).cell? ⟨w.heap.size + 1, 0, none⟩ = some (.int .i64 r1.turner.letters) ∧ ((wv2).alloc o).cell? ⟨w.heap.size + 1, 1, none⟩ = some (.int .i64 r1.turner.start) ∧ ((wv2).alloc o).cell? ⟨w.heap.size + 1, 2, none⟩ = some (.slice p1a2 p1n2 p1c2) ∧ ((wv2).alloc o).cell? ⟨w.heap.size + 1, 3, none⟩ = some (.slice p1a3 p1n3 p1c3)))
           have o' := writE.rd_ow ov2
           obtain ⟨wwv2, wwv3, rfl, -, -, wwh2, wwh3⟩ := rd_WriterF o'
           obtain ⟨wwa2, wwn2, wwc2, rfl⟩ := rd_slice wwh2
           obtain ⟨wwa3, wwn3, wwc3, rfl⟩ := rd_slice wwh3
           clear o' wwh2 wwh3)
        | (go_at_call 7
           with_reducible show Calls _ _ _ (World.drew (World.alloc u3 _)) _
           refine (toWriter_any _ r0 w.heap.size _ (by exact Nat.le_trans hb (((Star.nil u3).alloc (cs := #[.int .i64 0, .int .i64 0, .slice none 0 0, .slice none 0 0]) (ty := 34)).drew).below.size) (by exact writE.rd_of (HB.out.trans ((((Star.nil u3).alloc (cs := #[.int .i64 0, .int .i64 0, .slice none 0 0, .slice none 0 0]) (ty := 34)).drew).below.mono hb)) R0.out) hok0.out).mono ?_
           rintro e wv0a ⟨xv0a, fv0a, rfl, ov0a, ndv0a, lov0a, bv0a⟩
           have Sv0a := (((Star.nil u3).alloc (cs := #[.int .i64 0, .int .i64 0, .slice none 0 0, .slice none 0 0]) (ty := 34)).drew).made ov0a ndv0a lov0a bv0a
           have kv0a : ((wv0a).cell? ⟨w.heap.size, 0, none⟩ = some (.int .i64 r0.turner.letters) ∧ (wv0a).cell? ⟨w.heap.size, 1, none⟩ = some (.int .i64 r0.turner.start) ∧ (wv0a).cell? ⟨w.heap.size, 2, none⟩ = some (.slice p0a2 p0n2 p0c2) ∧ (wv0a).cell? ⟨w.heap.size, 3, none⟩ = some (.slice p0a3 p0n3 p0c3) ∧ (wv0a).cell? ⟨w.heap.size + 1, 0, none⟩ = some (.int .i64 r1.turner.letters) ∧ (wv0a).cell? ⟨w.heap.size + 1, 1, none⟩ = some (.int .i64 r1.turner.start) ∧ (wv0a).cell? ⟨w.heap.size + 1, 2, none⟩ = some (.slice p1a2 p1n2 p1c2) ∧ (wv0a).cell? ⟨w.heap.size + 1, 3, none⟩ = some (.slice p1a3 p1n3 p1c3)) := ⟨(HA0.out.of (Sv0a).below HA0.out.lt).cell 0 rfl, (HA0.out.of (Sv0a).below HA0.out.lt).cell 1 rfl, (HA0.out.of (Sv0a).below HA0.out.lt).cell 2 rfl, (HA0.out.of (Sv0a).below HA0.out.lt).cell 3 rfl, (HA1.out.of (Sv0a).below HA1.out.lt).cell 0 rfl, (HA1.out.of (Sv0a).below HA1.out.lt).cell 1 rfl, (HA1.out.of (Sv0a).below HA1.out.lt).cell 2 rfl, (HA1.out.of (Sv0a).below HA1.out.lt).cell 3 rfl⟩
           have kv0aa := fun o => (⟨cell_al (kv0a.1) o, cell_al (kv0a.2.1) o, cell_al (kv0a.2.2.1) o, cell_al (kv0a.2.2.2.1) o, cell_al (kv0a.2.2.2.2.1) o, cell_al (kv0a.2.2.2.2.2.1) o, cell_al (kv0a.2.2.2.2.2.2.1) o, cell_al (kv0a.2.2.2.2.2.2.2) o⟩ : (((wv0a).alloc o).cell? ⟨w.heap.size, 0, none⟩ = some (.int .i64 r0.turner.letters) ∧ ((wv0a).alloc o).cell? ⟨w.heap.size, 1, none⟩ = some (.int .i64 r0.turner.start) ∧ ((wv0a).alloc o).cell? ⟨w.heap.size, 2, none⟩ = some (.slice p0a2 p0n2 p0c2) ∧ ((wv0a).alloc o).cell? ⟨w.heap.size, 3, none⟩ = some (.slice p0a3 p0n3 p0c3) ∧ ((wv0a).alloc o).cell? ⟨w.heap.size + 1, 0, none⟩ = some (.int .i64 r1.turner.letters) ∧ ((wv0a).alloc o).cell? ⟨w.heap.size + 1, 1, none⟩ = some (.int .i64 r1.turner.start) ∧ ((wv0a).alloc o).cell? ⟨w.heap.size + 1, 2, none⟩ = some (.slice p1a2 p1n2 p1c2) ∧ ((wv0a).alloc o).cell? ⟨w.heap.size + 1, 3, none⟩ = some (.slice p1a3 p1n3 p1c3)))
           have o' := writE.rd_ow ov0a
           obtain ⟨y0v2, y0v3, rfl, -, -, y0h2, y0h3⟩ := rd_WriterF o'
           obtain ⟨y0a2, y0n2, y0c2, rfl⟩ := rd_slice y0h2
           obtain ⟨y0a3, y0n3, y0c3, rfl⟩ := rd_slice y0h3
           clear o' y0h2 y0h3)
        | (go_at_call 7
           with_reducible show Calls _ _ _ wv0a _
           refine (toWriter_any _ r1 w.heap.size _ (by exact Nat.le_trans hb (Sv0a).below.size) (by exact writE.rd_of (HB.out.trans ((Sv0a).below.mono hb)) R1.out) hok1.out).mono ?_
           rintro e wv1a ⟨xv1a, fv1a, rfl, ov1a, ndv1a, lov1a, bv1a⟩
           have Sv1a := (Sv0a).made ov1a ndv1a lov1a bv1a
           have kv1a : ((wv1a).cell? ⟨w.heap.size, 0, none⟩ = some (.int .i64 r0.turner.letters) ∧ (wv1a).cell? ⟨w.heap.size, 1, none⟩ = some (.int .i64 r0.turner.start) ∧ (wv1a).cell? ⟨w.heap.size, 2, none⟩ = some (.slice p0a2 p0n2 p0c2) ∧ (wv1a).cell? ⟨w.heap.size, 3, none⟩ = some (.slice p0a3 p0n3 p0c3) ∧ (wv1a).cell? ⟨w.heap.size + 1, 0, none⟩ = some (.int .i64 r1.turner.letters) ∧ (wv1a).cell? ⟨w.heap.size + 1, 1, none⟩ = some (.int .i64 r1.turner.start) ∧ (wv1a).cell? ⟨w.heap.size + 1, 2, none⟩ = some (.slice p1a2 p1n2 p1c2) ∧ (wv1a).cell? ⟨w.heap.size + 1, 3, none⟩ = some (.slice p1a3 p1n3 p1c3)) := ⟨(HA0.out.of (Sv1a).below HA0.out.lt).cell 0 rfl, (HA0.out.of (Sv1a).below HA0.out.lt).cell 1 rfl, (HA0.out.of (Sv1a).below HA0.out.lt).cell 2 rfl, (HA0.out.of (Sv1a).below HA0.out.lt).cell 3 rfl, (HA1.out.of (Sv1a).below HA1.out.lt).cell 0 rfl, (HA1.out.of (Sv1a).below HA1.out.lt).cell 1 rfl, (HA1.out.of (Sv1a).below HA1.out.lt).cell 2 rfl, (HA1.out.of (Sv1a).below HA1.out.lt).cell 3 rfl⟩
           have kv1aa := fun o => (⟨cell_al (kv1a.1) o, cell_al (kv1a.2.1) o, cell_al (kv1a.2.2.1) o, cell_al (kv1a.2.2.2.1) o, cell_al (kv1a.2.2.2.2.1) o, cell_al (kv1a.2.2.2.2.2.1) o, cell_al (kv1a.2.2.2.2.2.2.1) o, cell_al (kv1a.2.2.2.2.2.2.2) o⟩ : (((wv1a).alloc o).cell? ⟨w.heap.size, 0, none⟩ = some (.int .i64 r0.turner.letters) ∧ ((wv1a).alloc o).cell? ⟨w.heap.size, 1, none⟩ = some (.int .i64 r0.turner.start) ∧ ((wv1a).alloc o).cell? ⟨w.heap.size, 2, none⟩ = some (.slice p0a2 p0n2 p0c2) ∧ ((wv1a).alloc o).cell? ⟨w.heap.size, 3, none⟩ = some (.slice p0a3 p0n3 p0c3) ∧ ((wv1a).alloc o).cell? ⟨w.heap.size + 1, 0, none⟩ = some (.int .i64 r1.turner.letters) ∧ ((wv1a).alloc o).cell? ⟨w.heap.size + 1, 1, none⟩ = some (.int .i64 r1.turner.start) ∧ ((wv1a).alloc o).cell? ⟨w.heap.size + 1, 2, none⟩ = some (.slice p1a2 p1n2 p1c2) ∧ ((wv1a).alloc o).cell? ⟨w.heap.size + 1, 3, none⟩ = some (.slice p1a3 p1n3 p1c3)))
           have o' := writE.rd_ow ov1a
           obtain ⟨y1v2, y1v3, rfl, -, -, y1h2, y1h3⟩ := rd_WriterF o'
           obtain ⟨y1a2, y1n2, y1c2, rfl⟩ := rd_slice y1h2
           obtain ⟨y1a3, y1n3, y1c3, rfl⟩ := rd_slice y1h3
           clear o' y1h2 y1h3)
        | (go_at_call 10
           with_reducible show Calls _ _ _ wv1a _
           refine (specJoinWriters_is rs _ r0 _ r1 _ _ (Nat.le_refl _) (by exact (Sv1a).rd 1 rfl) (by exact (Sv1a).rd 0 rfl) HRS.out).mono ?_
           rintro e wv2a ⟨xv2a, fv2a, rfl, ov2a, ndv2a, lov2a, bv2a⟩
           have Sv2a := (Sv1a).made ov2a ndv2a lov2a bv2a
           have kv2a : ((wv2a).cell? ⟨w.heap.size, 0, none⟩ = some (.int .i64 r0.turner.letters) ∧ (wv2a).cell? ⟨w.heap.size, 1, none⟩ = some (.int .i64 r0.turner.start) ∧ (wv2a).cell? ⟨w.heap.size, 2, none⟩ = some (.slice p0a2 p0n2 p0c2) ∧ (wv2a).cell? ⟨w.heap.size, 3, none⟩ = some (.slice p0a3 p0n3 p0c3) ∧ (wv2a).cell? ⟨w.heap.size + 1, 0, none⟩ = some (.int .i64 r1.turner.letters) ∧ (wv2a).cell? ⟨w.heap.size + 1, 1, none⟩ = some (.int .i64 r1.turner.start) ∧ (wv2a).cell? ⟨w.heap.size + 1, 2, none⟩ = some (.slice p1a2 p1n2 p1c2) ∧ (wv2a).cell? ⟨w.heap.size + 1, 3, none⟩ = some (.slice p1a3 p1n3 p1c3)) := ⟨(HA0.out.of (Sv2a).below HA0.out.lt).cell 0 rfl, (HA0.out.of (Sv2a).below HA0.out.lt).cell 1 rfl, (HA0.out.of (Sv2a).below HA0.out.lt).cell 2 rfl, (HA0.out.of (Sv2a).below HA0.out.lt).cell 3 rfl, (HA1.out.of (Sv2a).below HA1.out.lt).cell 0 rfl, (HA1.out.of (Sv2a).below HA1.out.lt).cell 1 rfl, (HA1.out.of (Sv2a).below HA1.out.lt).cell 2 rfl, (HA1.out.of (Sv2a).below HA1.out.lt).cell 3 rfl⟩
           have kv2aa := fun o => (⟨cell_al (kv2a.1) o, cell_al (kv2a.2.1) o, cell_al (kv2a.2.2.1) o, cell_al (kv2a.2.2.2.1) o, cell_al (kv2a.2.2.2.2.1) o, cell_al (kv2a.2.2.2.2.2.1) o, cell_al (kv2a.2.2.2.2.2.2.1) o, cell_al (kv2a.2.2.2.2.2.2.2) o⟩ : (((wv2a).alloc o).cell? ⟨w.heap.size, 0, none⟩ = some (.int .i64 r0.turner.letters) ∧ ((wv2a).alloc o).cell? ⟨w.heap.size, 1, none⟩ = some (.int .i64 r0.turner.start) ∧ ((wv2a).alloc o).cell? ⟨w.heap.size, 2, none⟩ = some (.slice p0a2 p0n2 p0c2) ∧ ((wv2a).alloc o).cell? ⟨w.heap.size, 3, none⟩ = some (.slice p0a3 p0n3 p0c3) ∧ ((wv2a).alloc o).cell? ⟨w.heap.size + 1, 0, none⟩ = some (.int .i64 r1.turner.letters) ∧ ((wv2a).alloc o).cell? ⟨w.heap.size + 1, 1, none⟩ = some (.int .i64 r1.turner.start) ∧ ((wv2a).alloc o).cell? ⟨w.heap.size + 1, 2, none⟩ = some (.slice p1a2 p1n2 p1c2) ∧ ((wv2a).alloc o).cell? ⟨w.heap.size + 1, 3, none⟩ = some (.slice p1a3 p1n3 p1c3)))
           have o' := writE.rd_ow ov2a
           obtain ⟨wwv2, wwv3, rfl, -, -, wwh2, wwh3⟩ := rd_WriterF o'
           obtain ⟨wwa2, wwn2, wwc2, rfl⟩ := rd_slice wwh2
           obtain ⟨wwa3, wwn3, wwc3, rfl⟩ := rd_slice wwh3
           clear o' wwh2 wwh3
           have z0 := (Sv2a.blk 3 rfl).cell 0 rfl
           have z1 := (Sv2a.blk 3 rfl).cell 1 rfl
           have z2 := (Sv2a.blk 3 rfl).cell 2 rfl
           have z3 := (Sv2a.blk 3 rfl).cell 3 rfl
           have zf := (Sv2a.blk 3 rfl).free)
        | (go_at_call 7
           with_reducible show Calls _ _ _ (World.alloc wv0 _) _
           refine (toWriter_any _ r1 w.heap.size _ (by exact Nat.le_trans hb ((Sv0.alloc (cs := #[.int .i64 0, .int .i64 0, .slice none 0 0, .slice none 0 0]) (ty := 34))).below.size) (by exact writE.rd_of (HB.out.trans (((Sv0.alloc (cs := #[.int .i64 0, .int .i64 0, .slice none 0 0, .slice none 0 0]) (ty := 34))).below.mono hb)) R1.out) hok1.out).mono ?_
           rintro e wv1b ⟨xv1b, fv1b, rfl, ov1b, ndv1b, lov1b, bv1b⟩
           have Sv1b := ((Sv0.alloc (cs := #[.int .i64 0, .int .i64 0, .slice none 0 0, .slice none 0 0]) (ty := 34))).made ov1b ndv1b lov1b bv1b
           have kv1b : ((wv1b).cell? ⟨w.heap.size, 0, none⟩ = some (.int .i64 r0.turner.letters) ∧ (wv1b).cell? ⟨w.heap.size, 1, none⟩ = some (.int .i64 r0.turner.start) ∧ (wv1b).cell? ⟨w.heap.size, 2, none⟩ = some (.slice p0a2 p0n2 p0c2) ∧ (wv1b).cell? ⟨w.heap.size, 3, none⟩ = some (.slice p0a3 p0n3 p0c3) ∧ (wv1b).cell? ⟨w.heap.size + 1, 0, none⟩ = some (.int .i64 r1.turner.letters) ∧ (wv1b).cell? ⟨w.heap.size + 1, 1, none⟩ = some (.int .i64 r1.turner.start) ∧ (wv1b).cell? ⟨w.heap.size + 1, 2, none⟩ = some (.slice p1a2 p1n2 p1c2) ∧ (wv1b).cell? ⟨w.heap.size + 1, 3, none⟩ = some (.slice p1a3 p1n3 p1c3)) := ⟨(HA0.out.of (Sv1b).below HA0.out.lt).cell 0 rfl, (HA0.out.of (Sv1b).below HA0.out.lt).cell 1 rfl, (HA0.out.of (Sv1b).below HA0.out.lt).cell 2 rfl, (HA0.out.of (Sv1b).below HA0.out.lt).cell 3 rfl, (HA1.out.of (Sv1b).below HA1.out.lt).cell 0 rfl, (HA1.out.of (Sv1b).below HA1.out.lt).cell 1 rfl, (HA1.out.of (Sv1b).below HA1.out.lt).cell 2 rfl, (HA1.out.of (Sv1b).below HA1.out.lt).cell 3 rfl⟩
           have kv1ba := fun o => (⟨cell_al (kv1b.1) o, cell_al (kv1b.2.1) o, cell_al (kv1b.2.2.1) o, cell_al (kv1b.2.2.2.1) o, cell_al (kv1b.2.2.2.2.1) o, cell_al (kv1b.2.2.2.2.2.1) o, cell_al (kv1b.2.2.2.2.2.2.1) o, cell_al (kv1b.2.2.2.2.2.2.2) o⟩ : (((wv1b).alloc o).cell? ⟨w.heap.size, 0, none⟩ = some (.int .i64 r0.turner.letters) ∧ ((wv1b).alloc o).cell? ⟨w.heap.size, 1, none⟩ = some (.int .i64 r0.turner.start) ∧ ((wv1b).alloc o).cell? ⟨w.heap.size, 2, none⟩ = some (.slice p0a2 p0n2 p0c2) ∧ ((wv1b).alloc o).cell? ⟨w.heap.size, 3, none⟩ = some (.slice p0a3 p0n3 p0c3) ∧ ((wv1b).alloc o).cell? ⟨w.heap.size + 1, 0, none⟩ = some (.int .i64 r1.turner.letters) ∧ ((wv1b).alloc o).cell? ⟨w.heap.size + 1, 1, none⟩ = some (.int .i64 r1.turner.start) ∧ ((wv1b).alloc o).cell? ⟨w.heap.size + 1, 2, none⟩ = some (.slice p1a2 p1n2 p1c2) ∧ ((wv1b).alloc o).cell? ⟨w.heap.size + 1, 3, none⟩ = some (.slice p1a3 p1n3 p1c3)))
           have o' := writE.rd_ow ov1b
           obtain ⟨y1v2, y1v3, rfl, -, -, y1h2, y1h3⟩ := rd_WriterF o'
           obtain ⟨y1a2, y1n2, y1c2, rfl⟩ := rd_slice y1h2
           obtain ⟨y1a3, y1n3, y1c3, rfl⟩ := rd_slice y1h3
           clear o' y1h2 y1h3)
        | (go_at_call 10
           with_reducible show Calls _ _ _ wv1b _
           refine (specJoinWriters_is rs _ r0 _ r1 _ _ (Nat.le_refl _) (by exact (Sv1b).rd 2 rfl) (by exact (Sv1b).rd 0 rfl) HRS.out).mono ?_
           rintro e wv2b ⟨xv2b, fv2b, rfl, ov2b, ndv2b, lov2b, bv2b⟩
           have Sv2b := (Sv1b).made ov2b ndv2b lov2b bv2b
           have kv2b : ((wv2b).cell? ⟨w.heap.size, 0, none⟩ = some (.int .i64 r0.turner.letters) ∧ (wv2b).cell? ⟨w.heap.size, 1, none⟩ = some (.int .i64 r0.turner.start) ∧ (wv2b).cell? ⟨w.heap.size, 2, none⟩ = some (.slice p0a2 p0n2 p0c2) ∧ (wv2b).cell? ⟨w.heap.size, 3, none⟩ = some (.slice p0a3 p0n3 p0c3) ∧ (wv2b).cell? ⟨w.heap.size + 1, 0, none⟩ = some (.int .i64 r1.turner.letters) ∧ (wv2b).cell? ⟨w.heap.size + 1, 1, none⟩ = some (.int .i64 r1.turner.start) ∧ (wv2b).cell? ⟨w.heap.size + 1, 2, none⟩ = some (.slice p1a2 p1n2 p1c2) ∧ (wv2b).cell? ⟨w.heap.size + 1, 3, none⟩ = some (.slice p1a3 p1n3 p1c3)) := ⟨(HA0.out.of (Sv2b).below HA0.out.lt).cell 0 rfl, (HA0.out.of (Sv2b).below HA0.out.lt).cell 1 rfl, (HA0.out.of (Sv2b).below HA0.out.lt).cell 2 rfl, (HA0.out.of (Sv2b).below HA0.out.lt).cell 3 rfl, (HA1.out.of (Sv2b).below HA1.out.lt).cell 0 rfl, (HA1.out.of (Sv2b).below HA1.out.lt).cell 1 rfl, (HA1.out.of (Sv2b).below HA1.out.lt).cell 2 rfl, (HA1.out.of (Sv2b).below HA1.out.lt).cell 3 rfl⟩
           have kv2ba := fun o => (⟨cell_al (kv2b.1) o, cell_al (kv2b.2.1) o, cell_al (kv2b.2.2.1) o, cell_al (kv2b.2.2.2.1) o, cell_al (kv2b.2.2.2.2.1) o, cell_al (kv2b.2.2.2.2.2.1) o, cell_al (kv2b.2.2.2.2.2.2.1) o, cell_al (kv2b.2.2.2.2.2.2.2) o⟩ : (((wv2b).alloc o).cell? ⟨w.heap.size, 0, none⟩ = some (.int .i64 r0.turner.letters) ∧ ((wv2b).alloc o).cell? ⟨w.heap.size, 1, none⟩ = some (.int .i64 r0.turner.start) ∧ ((wv2b).alloc o).cell? ⟨w.heap.size, 2, none⟩ = some (.slice p0a2 p0n2 p0c2) ∧ ((wv2b).alloc o).cell? ⟨w.heap.size, 3, none⟩ = some (.slice p0a3 p0n3 p0c3) ∧ ((wv2b).alloc o).cell? ⟨w.heap.size + 1, 0, none⟩ = some (.int .i64 r1.turner.letters) ∧ ((wv2b).alloc o).cell? ⟨w.heap.size + 1, 1, none⟩ = some (.int .i64 r1.turner.start) ∧ ((wv2b).alloc o).cell? ⟨w.heap.size + 1, 2, none⟩ = some (.slice p1a2 p1n2 p1c2) ∧ ((wv2b).alloc o).cell? ⟨w.heap.size + 1, 3, none⟩ = some (.slice p1a3 p1n3 p1c3)))
           have o' := writE.rd_ow ov2b
           obtain ⟨wwv2, wwv3, rfl, -, -, wwh2, wwh3⟩ := rd_WriterF o'
           obtain ⟨wwa2, wwn2, wwc2, rfl⟩ := rd_slice wwh2
           obtain ⟨wwa3, wwn3, wwc3, rfl⟩ := rd_slice wwh3
           clear o' wwh2 wwh3
           have z0 := (Sv2b.blk 2 rfl).cell 0 rfl
           have z1 := (Sv2b.blk 2 rfl).cell 1 rfl
           have z2 := (Sv2b.blk 2 rfl).cell 2 rfl
           have z3 := (Sv2b.blk 2 rfl).cell 3 rfl
           have zf := (Sv2b.blk 2 rfl).free)
        | (go_at_call 10
           with_reducible show Calls _ _ _ (World.alloc wv1 _) _
           refine (specJoinWriters_is rs _ r0 _ r1 _ _ (Nat.le_refl _) (by exact ((Sv1.alloc (cs := #[.int .i64 0, .int .i64 0, .slice none 0 0, .slice none 0 0]) (ty := 34))).rd 2 rfl) (by exact ((Sv1.alloc (cs := #[.int .i64 0, .int .i64 0, .slice none 0 0, .slice none 0 0]) (ty := 34))).rd 1 rfl) HRS.out).mono ?_
           rintro e wv2c ⟨xv2c, fv2c, rfl, ov2c, ndv2c, lov2c, bv2c⟩
           have Sv2c := ((Sv1.alloc (cs := #[.int .i64 0, .int .i64 0, .slice none 0 0, .slice none 0 0]) (ty := 34))).made ov2c ndv2c lov2c bv2c
           have kv2c : ((wv2c).cell? ⟨w.heap.size, 0, none⟩ = some (.int .i64 r0.turner.letters) ∧ (wv2c).cell? ⟨w.heap.size, 1, none⟩ = some (.int .i64 r0.turner.start) ∧ (wv2c).cell? ⟨w.heap.size, 2, none⟩ = some (.slice p0a2 p0n2 p0c2) ∧ (wv2c).cell? ⟨w.heap.size, 3, none⟩ = some (.slice p0a3 p0n3 p0c3) ∧ (wv2c).cell? ⟨w.heap.size + 1, 0, none⟩ = some (.int .i64 r1.turner.letters) ∧ (wv2c).cell? ⟨w.heap.size + 1, 1, none⟩ = some (.int .i64 r1.turner.start) ∧ (wv2c).cell? ⟨w.heap.size + 1, 2, none⟩ = some (.slice p1a2 p1n2 p1c2) ∧ (wv2c).cell? ⟨w.heap.size + 1, 3, none⟩ = some (.slice p1a3 p1n3 p1c3)) := ⟨(HA0.out.of (Sv2c).below HA0.out.lt).cell 0 rfl, (HA0.out.of (Sv2c).below HA0.out.lt).cell 1 rfl, (HA0.out.of (Sv2c).below HA0.out.lt).cell 2 rfl, (HA0.out.of (Sv2c).below HA0.out.lt).cell 3 rfl, (HA1.out.of (Sv2c).below HA1.out.lt).cell 0 rfl, (HA1.out.of (Sv2c).below HA1.out.lt).cell 1 rfl, (HA1.out.of (Sv2c).below HA1.out.lt).cell 2 rfl, (HA1.out.of (Sv2c).below HA1.out.lt).cell 3 rfl⟩
           have kv2ca := fun o => (⟨cell_al (kv2c.1) o, cell_al (kv2c.2.1) o, cell_al (kv2c.2.2.1) o, cell_al (kv2c.2.2.2.1) o, cell_al (kv2c.2.2.2.2.1) o, cell_al (kv2c.2.2.2.2.2.1) o, cell_al (kv2c.2.2.2.2.2.2.1) o, cell_al (kv2c.2.2.2.2.2.2.2) o⟩ : (((wv2c).alloc o).cell? ⟨w.heap.size, 0, none⟩ = some (.int .i64 r0.turner.letters) ∧ ((wv2c).alloc o).cell? ⟨w.heap.size, 1, none⟩ = some (.int .i64 r0.turner.start) ∧ ((wv2c).alloc o).cell? ⟨w.heap.size, 2, none⟩ = some (.slice p0a2 p0n2 p0c2) ∧ ((wv2c).alloc o).cell? ⟨w.heap.size, 3, none⟩ = some (.slice p0a3 p0n3 p0c3) ∧ ((wv2c).alloc o).cell? ⟨w.heap.size + 1, 0, none⟩ = some (.int .i64 r1.turner.letters) ∧ ((wv2c).alloc o).cell? ⟨w.heap.size + 1, 1, none⟩ = some (.int .i64 r1.turner.start) ∧ ((wv2c).alloc o).cell? ⟨w.heap.size + 1, 2, none⟩ = some (.slice p1a2 p1n2 p1c2) ∧ ((wv2c).alloc o).cell? ⟨w.heap.size + 1, 3, none⟩ = some (.slice p1a3 p1n3 p1c3)))
           have o' := writE.rd_ow ov2c
           obtain ⟨wwv2, wwv3, rfl, -, -, wwh2, wwh3⟩ := rd_WriterF o'
           obtain ⟨wwa2, wwn2, wwc2, rfl⟩ := rd_slice wwh2
           obtain ⟨wwa3, wwn3, wwc3, rfl⟩ := rd_slice wwh3
           clear o' wwh2 wwh3
           have z0 := (Sv2c.blk 1 rfl).cell 0 rfl
           have z1 := (Sv2c.blk 1 rfl).cell 1 rfl
           have z2 := (Sv2c.blk 1 rfl).cell 2 rfl
           have z3 := (Sv2c.blk 1 rfl).cell 3 rfl
           have zf := (Sv2c.blk 1 rfl).free))
    all_goals
      go_wp2_with fail
      go_meet
      first
        | exact ⟨_, wwa2, wwn2, wwc2, wwa3, wwn3, wwc3, rfl, rfl, (Sv2.alloc (cs := #[.int .i64 rs.1.turner.letters, .int .i64 rs.1.turner.start, .slice wwa2 wwn2 wwc2, .slice wwa3 wwn3 wwc3]) (ty := 34)).sel [0, 1]⟩
        | exact ⟨_, wwa2, wwn2, wwc2, wwa3, wwn3, wwc3, rfl, rfl, (Sv2a.sel [3, 0]).set4 rfl rfl⟩
        | exact ⟨_, wwa2, wwn2, wwc2, wwa3, wwn3, wwc3, rfl, rfl, (Sv2b.sel [2, 0]).set4 rfl rfl⟩
        | exact ⟨_, wwa2, wwn2, wwc2, wwa3, wwn3, wwc3, rfl, rfl, (Sv2c.sel [1, 0]).set4 rfl rfl⟩
  clear k0 k0a
  obtain ⟨gW0, wwa2, wwn2, wwc2, wwa3, wwn3, wwc3, rfl, rfl, S⟩ := hcut
  generalize wc = u4 at S ⊢
  have qW0 := S.blk 0 rfl
  obtain ⟨fOw, oN, ndN, loN⟩ := (S.sel [1]).out
  have bN := S.below
  clear S
  have B := HB.out
  have A0 := HA0.out
  have A1 := HA1.out
  clear HB hb HA0 HA1
  have z3 := bN.size
  replace B := B.trans (bN.mono B.size)
  replace A0 := A0.of bN A0.lt
  replace A1 := A1.of bN A1.lt
  clear bN
  have LOOw := Lib.hid loN; have NDOw := Lib.hid ndN; have HIOw := Lib.hid (writE.ow_lt oN)
  have Ow := oN
  clear oN ndN loN
  have W0 := qW0; have lW0 := W0.lt; clear qW0
  have dA00 := A0.cell 0 rfl
  have dA01 := A0.cell 1 rfl
  have dA02 := A0.cell 2 rfl
  have dA03 := A0.cell 3 rfl
  go_wp2_with fail
  clear dA00 dA01 dA02 dA03
  -- the program
  refine (toWriter_any _ r0 w.heap.size _ B.size (writE.rd_of B R0.out) hok0.out).mono ?_
  rintro e u5 ⟨x9, fOx0, rfl, o9, nd9, lo9, b⟩
  have z4 := b.size
  replace B := B.trans (b.mono B.size)
  replace A0 := A0.of b A0.lt
  replace A1 := A1.of b A1.lt
  replace W0 := W0.of b W0.lt
  replace Ow := writE.ow_of b Ow
  clear b
  have o' := writE.rd_ow o9
  obtain ⟨x0v2, x0v3, rfl, -, -, x0h2, x0h3⟩ := rd_WriterF o'
  obtain ⟨x0a2, x0n2, x0c2, rfl⟩ := rd_slice x0h2
  obtain ⟨x0a3, x0n3, x0c3, rfl⟩ := rd_slice x0h3
  clear o' x0h2 x0h3
  have LOOx0 := Lib.hid lo9; have NDOx0 := Lib.hid nd9; have HIOx0 := Lib.hid (writE.ow_lt o9)
  have Ox0 := o9
  clear o9 nd9 lo9
  have dA10 := fun o => (A1.alloc o).cell 0 rfl
  have dA11 := fun o => (A1.alloc o).cell 1 rfl
  have dA12 := fun o => (A1.alloc o).cell 2 rfl
  have dA13 := fun o => (A1.alloc o).cell 3 rfl
  go_wp2_with fail
  clear dA10 dA11 dA12 dA13
  generalize hW : u5.alloc _ = u6
  obtain ⟨qX0, b⟩ := blk1 hW
  clear hW
  have z5 := b.size
  replace B := B.trans (b.mono B.size)
  replace A0 := A0.of b A0.lt
  replace A1 := A1.of b A1.lt
  replace W0 := W0.of b W0.lt
  replace Ow := writE.ow_of b Ow
  replace Ox0 := writE.ow_of b Ox0
  have X0 := qX0; have lX0 := X0.lt; clear qX0 b
  refine (toWriter_any _ r1 w.heap.size _ B.size (writE.rd_of B R1.out) hok1.out).mono ?_
  rintro e u7 ⟨x9, fOx1, rfl, o9, nd9, lo9, b⟩
  have z6 := b.size
  replace B := B.trans (b.mono B.size)
  replace A0 := A0.of b A0.lt
  replace A1 := A1.of b A1.lt
  replace W0 := W0.of b W0.lt
  replace X0 := X0.of b X0.lt
  replace Ow := writE.ow_of b Ow
  replace Ox0 := writE.ow_of b Ox0
  clear b
  have o' := writE.rd_ow o9
  obtain ⟨x1v2, x1v3, rfl, -, -, x1h2, x1h3⟩ := rd_WriterF o'
  obtain ⟨x1a2, x1n2, x1c2, rfl⟩ := rd_slice x1h2
  obtain ⟨x1a3, x1n3, x1c3, rfl⟩ := rd_slice x1h3
  clear o' x1h2 x1h3
  have LOOx1 := Lib.hid lo9; have NDOx1 := Lib.hid nd9; have HIOx1 := Lib.hid (writE.ow_lt o9)
  have Ox1 := o9
  clear o9 nd9 lo9
  have dX00 := fun o => (X0.alloc o).cell 0 rfl
  have dX01 := fun o => (X0.alloc o).cell 1 rfl
  have dX02 := fun o => (X0.alloc o).cell 2 rfl
  have dX03 := fun o => (X0.alloc o).cell 3 rfl
  go_wp2_with fail
  clear dX00 dX01 dX02 dX03
  generalize hW : u7.alloc _ = u8
  obtain ⟨qX1, b⟩ := blk1 hW
  clear hW
  have z7 := b.size
  replace B := B.trans (b.mono B.size)
  replace A0 := A0.of b A0.lt
  replace A1 := A1.of b A1.lt
  replace W0 := W0.of b W0.lt
  replace X0 := X0.of b X0.lt
  replace Ow := writE.ow_of b Ow
  replace Ox0 := writE.ow_of b Ox0
  replace Ox1 := writE.ow_of b Ox1
  have X1 := qX1; have lX1 := X1.lt; clear qX1 b
  refine (joinWriters_is rs _ r0 _ r1 u8.heap.size _ (Nat.le_refl _) (writE.rd_ow Ox0) (writE.rd_ow Ox1) HRS.out).mono ?_
  rintro e u9 ⟨x9, fOg, rfl, o9, nd9, lo9, b⟩
  have z8 := b.size
  replace B := B.trans (b.mono B.size)
  replace A0 := A0.of b A0.lt
  replace A1 := A1.of b A1.lt
  replace W0 := W0.of b W0.lt
  replace X0 := X0.of b X0.lt
  replace X1 := X1.of b X1.lt
  replace Ow := writE.ow_of b Ow
  replace Ox0 := writE.ow_of b Ox0
  replace Ox1 := writE.ow_of b Ox1
  clear b
  have o' := writE.rd_ow o9
  obtain ⟨ggv2, ggv3, rfl, -, -, ggh2, ggh3⟩ := rd_WriterF o'
  obtain ⟨gga2, ggn2, ggc2, rfl⟩ := rd_slice ggh2
  obtain ⟨gga3, ggn3, ggc3, rfl⟩ := rd_slice ggh3
  clear o' ggh2 ggh3
  have LOOg := Lib.hid lo9; have NDOg := Lib.hid nd9; have HIOg := Lib.hid (writE.ow_lt o9)
  have Og := o9
  clear o9 nd9 lo9
  have dW00 := fun o => (W0.alloc o).cell 0 rfl
  have dW01 := fun o => (W0.alloc o).cell 1 rfl
  have dW02 := fun o => (W0.alloc o).cell 2 rfl
  have dW03 := fun o => (W0.alloc o).cell 3 rfl
  go_wp2_with fail
  clear dW00 dW01 dW02 dW03
  generalize hW : u9.alloc _ = u10
  obtain ⟨qG0, b⟩ := blk1 hW
  clear hW
  have z9 := b.size
  replace B := B.trans (b.mono B.size)
  replace A0 := A0.of b A0.lt
  replace A1 := A1.of b A1.lt
  replace W0 := W0.of b W0.lt
  replace X0 := X0.of b X0.lt
  replace X1 := X1.of b X1.lt
  replace Ow := writE.ow_of b Ow
  replace Ox0 := writE.ow_of b Ox0
  replace Ox1 := writE.ow_of b Ox1
  replace Og := writE.ow_of b Og
  have G0 := qG0; have lG0 := G0.lt; clear qG0 b
  refine (eqWriter_is true _ _ rs.1 rs.1 _ _ _ (Nat.le_refl _) (Nat.le_refl _) (writE.rd_ow Og) (writE.rd_ow Ow) (decide_eq_true rfl)).mono ?_
  rintro e u11 ⟨rfl, b⟩
  have z10 := b.size
  replace B := B.trans (b.mono B.size)
  replace A0 := A0.of b A0.lt
  replace A1 := A1.of b A1.lt
  replace W0 := W0.of b W0.lt
  replace X0 := X0.of b X0.lt
  replace X1 := X1.of b X1.lt
  replace G0 := G0.of b G0.lt
  replace Ow := writE.ow_of b Ow
  replace Ox0 := writE.ow_of b Ox0
  replace Ox1 := writE.ow_of b Ox1
  replace Og := writE.ow_of b Og
  clear b
  -- an argument as before
  go_wp2_with fail
  have HA0 := Lib.hid A0; clear A0
  have HA1 := Lib.hid A1; clear A1
  have HW0 := Lib.hid W0; clear W0
  have HX0 := Lib.hid X0; clear X0
  have HX1 := Lib.hid X1; clear X1
  have HG0 := Lib.hid G0; clear G0
  have HOw := Lib.hid Ow; clear Ow
  have HOx0 := Lib.hid Ox0; clear Ox0
  have HOx1 := Lib.hid Ox1; clear Ox1
  have HOg := Lib.hid Og; clear Og
  have HB := Lib.hid B; have hb := B.size; clear B
  have dA00 := HA0.out.cell 0 rfl
  have dA01 := HA0.out.cell 1 rfl
  have dA02 := HA0.out.cell 2 rfl
  have dA03 := HA0.out.cell 3 rfl
  have dX00 := HX0.out.cell 0 rfl
  have dX01 := HX0.out.cell 1 rfl
  have dX02 := HX0.out.cell 2 rfl
  have dX03 := HX0.out.cell 3 rfl
  go_region_held3 (fun w' => w'.cell? ⟨w.heap.size, 0, none⟩ = some (.int .i64 r0.turner.letters) ∧ w'.cell? ⟨w.heap.size, 1, none⟩ = some (.int .i64 r0.turner.start) ∧ w'.cell? ⟨w.heap.size, 2, none⟩ = some (.slice p0a2 p0n2 p0c2) ∧ w'.cell? ⟨w.heap.size, 3, none⟩ = some (.slice p0a3 p0n3 p0c3) ∧ w'.cell? ⟨u5.heap.size, 0, none⟩ = some (.int .i64 r0.turner.letters) ∧ w'.cell? ⟨u5.heap.size, 1, none⟩ = some (.int .i64 r0.turner.start) ∧ w'.cell? ⟨u5.heap.size, 2, none⟩ = some (.slice x0a2 x0n2 x0c2) ∧ w'.cell? ⟨u5.heap.size, 3, none⟩ = some (.slice x0a3 x0n3 x0c3))
    (first
      | go_keep
      | (have A0 := HA0.out.of c0 HA0.out.lt
         have X0 := HX0.out.of c0 HX0.out.lt
         exact ⟨A0.cell 0 rfl, A0.cell 1 rfl, A0.cell 2 rfl, A0.cell 3 rfl, X0.cell 0 rfl, X0.cell 1 rfl, X0.cell 2 rfl, X0.cell 3 rfl⟩)
      | (have A0 := HA0.out.of c1 HA0.out.lt
         have X0 := HX0.out.of c1 HX0.out.lt
         exact ⟨A0.cell 0 rfl, A0.cell 1 rfl, A0.cell 2 rfl, A0.cell 3 rfl, X0.cell 0 rfl, X0.cell 1 rfl, X0.cell 2 rfl, X0.cell 3 rfl⟩))
    (first
      | (go_at_call 7
         refine (toWriter_any _ r0 w.heap.size _ (by exact hb) (by exact writE.rd_of HB.out.drew R0.out) hok0.out).mono ?_
         rintro e y00 ⟨x90, fOy0, rfl, oOy0, ndOy0, loOy0, b0⟩
         have c0 : Below u11.heap.size u11 y00 := (Below.refl _ u11).drew.trans b0
         have o' := writE.rd_ow oOy0
         obtain ⟨t0v2, t0v3, rfl, -, -, t0h2, t0h3⟩ := rd_WriterF o'
         obtain ⟨t0a2, t0n2, t0c2, rfl⟩ := rd_slice t0h2
         obtain ⟨t0a3, t0n3, t0c3, rfl⟩ := rd_slice t0h3
         clear o' t0h2 t0h3)
      | (go_at_call 9
         refine (eqWriter_is true _ _ r0 r0 _ _ _ (Nat.le_refl _) (Nat.le_refl _) (writE.rd_ow (writE.ow_of c0 HOx0.out)) (writE.rd_ow oOy0) (decide_eq_true rfl)).mono ?_
         rintro e y01 ⟨rfl, b1⟩
         have c1 : Below u11.heap.size u11 y01 := c0.trans (b1.mono c0.size)))
  have B := HB.out
  have A0 := HA0.out
  have A1 := HA1.out
  have W0 := HW0.out
  have X0 := HX0.out
  have X1 := HX1.out
  have G0 := HG0.out
  have Ow := HOw.out
  have Ox0 := HOx0.out
  have Ox1 := HOx1.out
  have Og := HOg.out
  clear HB hb HA0 HA1 HW0 HX0 HX1 HG0 HOw HOx0 HOx1 HOg
  clear dA00 dA01 dA02 dA03 dX00 dX01 dX02 dX03
  have z11 := c1.size
  replace B := B.trans (c1.mono B.size)
  replace A0 := A0.of c1 A0.lt
  replace A1 := A1.of c1 A1.lt
  replace W0 := W0.of c1 W0.lt
  replace X0 := X0.of c1 X0.lt
  replace X1 := X1.of c1 X1.lt
  replace G0 := G0.of c1 G0.lt
  replace Ow := writE.ow_of c1 Ow
  replace Ox0 := writE.ow_of c1 Ox0
  replace Ox1 := writE.ow_of c1 Ox1
  replace Og := writE.ow_of c1 Og
  clear oOy0 ndOy0 loOy0 b0 b1 c0 c1
  -- an argument as before
  go_wp2_with fail
  have HA0 := Lib.hid A0; clear A0
  have HA1 := Lib.hid A1; clear A1
  have HW0 := Lib.hid W0; clear W0
  have HX0 := Lib.hid X0; clear X0
  have HX1 := Lib.hid X1; clear X1
  have HG0 := Lib.hid G0; clear G0
  have HOw := Lib.hid Ow; clear Ow
  have HOx0 := Lib.hid Ox0; clear Ox0
  have HOx1 := Lib.hid Ox1; clear Ox1
  have HOg := Lib.hid Og; clear Og
  have HB := Lib.hid B; have hb := B.size; clear B
  have dA10 := HA1.out.cell 0 rfl
  have dA11 := HA1.out.cell 1 rfl
  have dA12 := HA1.out.cell 2 rfl
  have dA13 := HA1.out.cell 3 rfl
  have dX10 := HX1.out.cell 0 rfl
  have dX11 := HX1.out.cell 1 rfl
  have dX12 := HX1.out.cell 2 rfl
  have dX13 := HX1.out.cell 3 rfl
  go_region_held3 (fun w' => w'.cell? ⟨w.heap.size + 1, 0, none⟩ = some (.int .i64 r1.turner.letters) ∧ w'.cell? ⟨w.heap.size + 1, 1, none⟩ = some (.int .i64 r1.turner.start) ∧ w'.cell? ⟨w.heap.size + 1, 2, none⟩ = some (.slice p1a2 p1n2 p1c2) ∧ w'.cell? ⟨w.heap.size + 1, 3, none⟩ = some (.slice p1a3 p1n3 p1c3) ∧ w'.cell? ⟨u7.heap.size, 0, none⟩ = some (.int .i64 r1.turner.letters) ∧ w'.cell? ⟨u7.heap.size, 1, none⟩ = some (.int .i64 r1.turner.start) ∧ w'.cell? ⟨u7.heap.size, 2, none⟩ = some (.slice x1a2 x1n2 x1c2) ∧ w'.cell? ⟨u7.heap.size, 3, none⟩ = some (.slice x1a3 x1n3 x1c3))
    (first
      | go_keep
      | (have A1 := HA1.out.of c0 HA1.out.lt
         have X1 := HX1.out.of c0 HX1.out.lt
         exact ⟨A1.cell 0 rfl, A1.cell 1 rfl, A1.cell 2 rfl, A1.cell 3 rfl, X1.cell 0 rfl, X1.cell 1 rfl, X1.cell 2 rfl, X1.cell 3 rfl⟩)
      | (have A1 := HA1.out.of c1 HA1.out.lt
         have X1 := HX1.out.of c1 HX1.out.lt
         exact ⟨A1.cell 0 rfl, A1.cell 1 rfl, A1.cell 2 rfl, A1.cell 3 rfl, X1.cell 0 rfl, X1.cell 1 rfl, X1.cell 2 rfl, X1.cell 3 rfl⟩))
    (first
      | (go_at_call 7
         refine (toWriter_any _ r1 w.heap.size _ (by exact hb) (by exact writE.rd_of HB.out.drew R1.out) hok1.out).mono ?_
         rintro e y10 ⟨x90, fOy1, rfl, oOy1, ndOy1, loOy1, b0⟩
         have c0 : Below y01.heap.size y01 y10 := (Below.refl _ y01).drew.trans b0
         have o' := writE.rd_ow oOy1
         obtain ⟨t1v2, t1v3, rfl, -, -, t1h2, t1h3⟩ := rd_WriterF o'
         obtain ⟨t1a2, t1n2, t1c2, rfl⟩ := rd_slice t1h2
         obtain ⟨t1a3, t1n3, t1c3, rfl⟩ := rd_slice t1h3
         clear o' t1h2 t1h3)
      | (go_at_call 9
         refine (eqWriter_is true _ _ r1 r1 _ _ _ (Nat.le_refl _) (Nat.le_refl _) (writE.rd_ow (writE.ow_of c0 HOx1.out)) (writE.rd_ow oOy1) (decide_eq_true rfl)).mono ?_
         rintro e y11 ⟨rfl, b1⟩
         have c1 : Below y01.heap.size y01 y11 := c0.trans (b1.mono c0.size)))
  have B := HB.out
  have A0 := HA0.out
  have A1 := HA1.out
  have W0 := HW0.out
  have X0 := HX0.out
  have X1 := HX1.out
  have G0 := HG0.out
  have Ow := HOw.out
  have Ox0 := HOx0.out
  have Ox1 := HOx1.out
  have Og := HOg.out
  clear HB hb HA0 HA1 HW0 HX0 HX1 HG0 HOw HOx0 HOx1 HOg
  clear dA10 dA11 dA12 dA13 dX10 dX11 dX12 dX13
  have z12 := c1.size
  replace B := B.trans (c1.mono B.size)
  replace A0 := A0.of c1 A0.lt
  replace A1 := A1.of c1 A1.lt
  replace W0 := W0.of c1 W0.lt
  replace X0 := X0.of c1 X0.lt
  replace X1 := X1.of c1 X1.lt
  replace G0 := G0.of c1 G0.lt
  replace Ow := writE.ow_of c1 Ow
  replace Ox0 := writE.ow_of c1 Ox0
  replace Ox1 := writE.ow_of c1 Ox1
  replace Og := writE.ow_of c1 Og
  clear oOy1 ndOy1 loOy1 b0 b1 c0 c1
  -- marks on an argument
  have dX00 := X0.cell 0 rfl
  have dX01 := X0.cell 1 rfl
  have dX02 := X0.cell 2 rfl
  have dX03 := X0.cell 3 rfl
  go_wp2_with fail
  clear dX00 dX01 dX02 dX03
  have HC0 : Hid (writM.cnt r0 ≤ 10000000) := Lib.hid (Nat.le_trans (cnt_le_totWriter r0) (by rw [← HT0.out]; omega))
  refine (markWriter_any _ r0 fOx0 _ _ Ox0 NDOx0.out (by omega) (by have := HC0.out; omega)).mono ?_
  rintro e u12 ⟨x9, rfl, om, -, -, bt⟩
  have z13 := bt.size
  replace B := B.trans (bt.below (fun b hb => by have := LOOx0.out b hb; omega) B.size)
  replace A0 := A0.but bt (fun hb => by have := LOOx0.out _ hb; have := HIOx0.out _ hb; omega)
  replace A1 := A1.but bt (fun hb => by have := LOOx0.out _ hb; have := HIOx0.out _ hb; omega)
  replace W0 := W0.but bt (fun hb => by have := LOOx0.out _ hb; have := HIOx0.out _ hb; omega)
  replace X0 := X0.but bt (fun hb => by have := LOOx0.out _ hb; have := HIOx0.out _ hb; omega)
  replace X1 := X1.but bt (fun hb => by have := LOOx0.out _ hb; have := HIOx0.out _ hb; omega)
  replace G0 := G0.but bt (fun hb => by have := LOOx0.out _ hb; have := HIOx0.out _ hb; omega)
  replace Ow := writE.ow_but Ow bt (fun b hb hq => by have := LOOw.out b hb; have := HIOw.out b hb; have := LOOx0.out b hq; have := HIOx0.out b hq; omega)
  replace Ox1 := writE.ow_but Ox1 bt (fun b hb hq => by have := LOOx1.out b hb; have := HIOx1.out b hb; have := LOOx0.out b hq; have := HIOx0.out b hq; omega)
  replace Og := writE.ow_but Og bt (fun b hb hq => by have := LOOg.out b hb; have := HIOg.out b hb; have := LOOx0.out b hq; have := HIOx0.out b hq; omega)
  clear bt om x9
  clear Ox0 LOOx0 HIOx0 NDOx0
  clear X0
  obtain ⟨kk0, hk9⟩ : ∃ q : Int, q = 1 + ((writM.cnt r0 : Nat) : Int) := ⟨_, rfl⟩
  rw [← hk9]
  have hnkk0 : ¬ kk0 < 0 := by omega
  have gekk0 : 0 ≤ kk0 := by omega
  have gtkk0 : 0 < kk0 := by omega
  have Hkk0 := Lib.hid hk9; clear hk9
  have gbkk0 : kk0 ≤ 20000000 := by have := Hkk0.out; have := HC0.out; omega
  -- marks on an argument
  have dX10 := X1.cell 0 rfl
  have dX11 := X1.cell 1 rfl
  have dX12 := X1.cell 2 rfl
  have dX13 := X1.cell 3 rfl
  go_wp2_with fail
  clear dX10 dX11 dX12 dX13
  have HC1 : Hid (writM.cnt r1 ≤ 10000000) := Lib.hid (Nat.le_trans (cnt_le_totWriter r1) (by rw [← HT1.out]; omega))
  refine (markWriter_any _ r1 fOx1 _ _ Ox1 NDOx1.out (by omega) (by have := HC1.out; omega)).mono ?_
  rintro e u13 ⟨x9, rfl, om, -, -, bt⟩
  have z14 := bt.size
  replace B := B.trans (bt.below (fun b hb => by have := LOOx1.out b hb; omega) B.size)
  replace A0 := A0.but bt (fun hb => by have := LOOx1.out _ hb; have := HIOx1.out _ hb; omega)
  replace A1 := A1.but bt (fun hb => by have := LOOx1.out _ hb; have := HIOx1.out _ hb; omega)
  replace W0 := W0.but bt (fun hb => by have := LOOx1.out _ hb; have := HIOx1.out _ hb; omega)
  replace X1 := X1.but bt (fun hb => by have := LOOx1.out _ hb; have := HIOx1.out _ hb; omega)
  replace G0 := G0.but bt (fun hb => by have := LOOx1.out _ hb; have := HIOx1.out _ hb; omega)
  replace Ow := writE.ow_but Ow bt (fun b hb hq => by have := LOOw.out b hb; have := HIOw.out b hb; have := LOOx1.out b hq; have := HIOx1.out b hq; omega)
  replace Og := writE.ow_but Og bt (fun b hb hq => by have := LOOg.out b hb; have := HIOg.out b hb; have := LOOx1.out b hq; have := HIOx1.out b hq; omega)
  clear bt om x9
  clear Ox1 LOOx1 HIOx1 NDOx1
  clear X1
  obtain ⟨kk1, hk9⟩ : ∃ q : Int, q = kk0 + ((writM.cnt r1 : Nat) : Int) := ⟨_, rfl⟩
  rw [← hk9]
  have hnkk1 : ¬ kk1 < 0 := by omega
  have gekk1 : 0 ≤ kk1 := by omega
  have gtkk1 : 0 < kk1 := by omega
  have Hkk1 := Lib.hid hk9; clear hk9
  have gbkk1 : kk1 ≤ 40000000 := by have := Hkk1.out; have := HC1.out; omega
  have dG00 := G0.cell 0 rfl
  have dG01 := G0.cell 1 rfl
  have dG02 := G0.cell 2 rfl
  have dG03 := G0.cell 3 rfl
  have dW00 := W0.cell 0 rfl
  have dW01 := W0.cell 1 rfl
  have dW02 := W0.cell 2 rfl
  have dW03 := W0.cell 3 rfl
  go_wp2_with fail
  clear dG00 dG01 dG02 dG03 dW00 dW01 dW02 dW03
  refine (eqWriter_is true _ _ rs.1 rs.1 _ _ _ (Nat.le_refl _) (Nat.le_refl _) (writE.rd_ow Og) (writE.rd_ow Ow) (decide_eq_true rfl)).mono ?_
  rintro e u14 ⟨rfl, b⟩
  have z15 := b.size
  replace B := B.trans (b.mono B.size)
  replace A0 := A0.of b A0.lt
  replace A1 := A1.of b A1.lt
  replace W0 := W0.of b W0.lt
  replace G0 := G0.of b G0.lt
  replace Ow := writE.ow_of b Ow
  replace Og := writE.ow_of b Og
  clear b
  -- marks on the result
  have dG00 := G0.cell 0 rfl
  have dG01 := G0.cell 1 rfl
  have dG02 := G0.cell 2 rfl
  have dG03 := G0.cell 3 rfl
  go_wp2_with fail
  clear dG00 dG01 dG02 dG03
  refine (markWriter_any _ rs.1 fOg 1 _ Og NDOg.out (by omega) (by have := HCNT.out; omega)).mono ?_
  rintro e u15 ⟨mr, rfl, om, hm9, hc9, bt⟩
  have z16 := bt.size
  replace B := B.trans (bt.below (fun b hb => by have := LOOg.out b hb; omega) B.size)
  replace A0 := A0.but bt (fun hb => by have := LOOg.out _ hb; have := HIOg.out _ hb; omega)
  replace A1 := A1.but bt (fun hb => by have := LOOg.out _ hb; have := HIOg.out _ hb; omega)
  replace W0 := W0.but bt (fun hb => by have := LOOg.out _ hb; have := HIOg.out _ hb; omega)
  replace G0 := G0.but bt (fun hb => by have := LOOg.out _ hb; have := HIOg.out _ hb; omega)
  replace Ow := writE.ow_but Ow bt (fun b hb hq => by have := LOOw.out b hb; have := HIOw.out b hb; have := LOOg.out b hq; have := HIOg.out b hq; omega)
  replace Og := om
  clear om bt
  have HM := Lib.hid hm9; have HC := Lib.hid hc9; clear hm9 hc9
  obtain ⟨mm, hk9⟩ : ∃ q : Int, q = 1 + ((writM.cnt rs.1 : Nat) : Int) := ⟨_, rfl⟩
  rw [← hk9]
  have hnmm : ¬ mm < 0 := by omega
  have gemm : 0 ≤ mm := by omega
  have gtmm : 0 < mm := by omega
  have Hmm := Lib.hid hk9; clear hk9
  have dG00 := G0.cell 0 rfl
  have dG01 := G0.cell 1 rfl
  have dG02 := G0.cell 2 rfl
  have dG03 := G0.cell 3 rfl
  go_wp2_with fail
  clear dG00 dG01 dG02 dG03
  refine (heldWriter_any _ mr _ 1 _ (Nat.le_refl _) (writE.rd_ow Og) HM.out (by omega) (by have := HC.out; have := HCNT.out; omega)).mono ?_
  rintro e u16 ⟨rfl, b⟩
  have z17 := b.size
  replace B := B.trans (b.mono B.size)
  replace A0 := A0.of b A0.lt
  replace A1 := A1.of b A1.lt
  replace W0 := W0.of b W0.lt
  replace G0 := G0.of b G0.lt
  replace Ow := writE.ow_of b Ow
  replace Og := writE.ow_of b Og
  clear b
  rw [show (1 : Int) + ((writM.cnt mr : Nat) : Int) = mm from by rw [HC.out, Hmm.out]]
  -- once more
  go_wp2_with fail
  have HA0 := Lib.hid A0; clear A0
  have HA1 := Lib.hid A1; clear A1
  have HW0 := Lib.hid W0; clear W0
  have HG0 := Lib.hid G0; clear G0
  have HOw := Lib.hid Ow; clear Ow
  have HOg := Lib.hid Og; clear Og
  have HB := Lib.hid B; have hb := B.size; clear B
  have k0 : ((u16).cell? ⟨w.heap.size, 0, none⟩ = some (.int .i64 r0.turner.letters) ∧ (u16).cell? ⟨w.heap.size, 1, none⟩ = some (.int .i64 r0.turner.start) ∧ (u16).cell? ⟨w.heap.size, 2, none⟩ = some (.slice p0a2 p0n2 p0c2) ∧ (u16).cell? ⟨w.heap.size, 3, none⟩ = some (.slice p0a3 p0n3 p0c3) ∧ (u16).cell? ⟨w.heap.size + 1, 0, none⟩ = some (.int .i64 r1.turner.letters) ∧ (u16).cell? ⟨w.heap.size + 1, 1, none⟩ = some (.int .i64 r1.turner.start) ∧ (u16).cell? ⟨w.heap.size + 1, 2, none⟩ = some (.slice p1a2 p1n2 p1c2) ∧ (u16).cell? ⟨w.heap.size + 1, 3, none⟩ = some (.slice p1a3 p1n3 p1c3)) := ⟨HA0.out.cell 0 rfl, HA0.out.cell 1 rfl, HA0.out.cell 2 rfl, HA0.out.cell 3 rfl, HA1.out.cell 0 rfl, HA1.out.cell 1 rfl, HA1.out.cell 2 rfl, HA1.out.cell 3 rfl⟩
  have k0a := fun o => (⟨cell_al (k0.1) o, cell_al (k0.2.1) o, cell_al (k0.2.2.1) o, cell_al (k0.2.2.2.1) o, cell_al (k0.2.2.2.2.1) o, cell_al (k0.2.2.2.2.2.1) o, cell_al (k0.2.2.2.2.2.2.1) o, cell_al (k0.2.2.2.2.2.2.2) o⟩ : (((u16).alloc o).cell? ⟨w.heap.size, 0, none⟩ = some (.int .i64 r0.turner.letters) ∧ ((u16).alloc o).cell? ⟨w.heap.size, 1, none⟩ = some (.int .i64 r0.turner.start) ∧ ((u16).alloc o).cell? ⟨w.heap.size, 2, none⟩ = some (.slice p0a2 p0n2 p0c2) ∧ ((u16).alloc o).cell? ⟨w.heap.size, 3, none⟩ = some (.slice p0a3 p0n3 p0c3) ∧ ((u16).alloc o).cell? ⟨w.heap.size + 1, 0, none⟩ = some (.int .i64 r1.turner.letters) ∧ ((u16).alloc o).cell? ⟨w.heap.size + 1, 1, none⟩ = some (.int .i64 r1.turner.start) ∧ ((u16).alloc o).cell? ⟨w.heap.size + 1, 2, none⟩ = some (.slice p1a2 p1n2 p1c2) ∧ ((u16).alloc o).cell? ⟨w.heap.size + 1, 3, none⟩ = some (.slice p1a3 p1n3 p1c3)))
  go_cut [15, 16] (fun s6 s7 wx => ∃ g : Nat, ∃ hha2 hhn2 hhc2 hha3 hhn3 hhc3, s6 = .pointer (some ⟨g, 0, none⟩) ∧ s7 = .int .i64 rs.2 ∧ Star u16 wx [oB g [.int .i64 rs.1.turner.letters, .int .i64 rs.1.turner.start, .slice hha2 hhn2 hhc2, .slice hha3 hhn3 hhc3] 34, oE writE [.int .i64 rs.1.turner.letters, .int .i64 rs.1.turner.start, .slice hha2 hhn2 hhc2, .slice hha3 hhn3 hhc3] rs.1])
  case first =>
    go_region_held3 (fun w' => w'.cell? ⟨w.heap.size, 0, none⟩ = some (.int .i64 r0.turner.letters) ∧ w'.cell? ⟨w.heap.size, 1, none⟩ = some (.int .i64 r0.turner.start) ∧ w'.cell? ⟨w.heap.size, 2, none⟩ = some (.slice p0a2 p0n2 p0c2) ∧ w'.cell? ⟨w.heap.size, 3, none⟩ = some (.slice p0a3 p0n3 p0c3) ∧ w'.cell? ⟨w.heap.size + 1, 0, none⟩ = some (.int .i64 r1.turner.letters) ∧ w'.cell? ⟨w.heap.size + 1, 1, none⟩ = some (.int .i64 r1.turner.start) ∧ w'.cell? ⟨w.heap.size + 1, 2, none⟩ = some (.slice p1a2 p1n2 p1c2) ∧ w'.cell? ⟨w.heap.size + 1, 3, none⟩ = some (.slice p1a3 p1n3 p1c3))
      (first
        | (with_reducible exact k0)
        | (with_reducible exact k0a _)
        | (with_reducible exact ku90)
        | (with_reducible exact ku90a _)
        | (with_reducible exact ku91)
        | (with_reducible exact ku91a _)
        | (with_reducible exact ku92)
        | (with_reducible exact ku92a _)
        | (with_reducible exact ku90a)
        | (with_reducible exact ku90aa _)
        | (with_reducible exact ku91a)
        | (with_reducible exact ku91aa _)
        | (with_reducible exact ku92a)
        | (with_reducible exact ku92aa _)
        | exact ⟨(HA0.out.of ((Su92a.sel [3, 0]).set4 rfl rfl).below HA0.out.lt).cell 0 rfl, (HA0.out.of ((Su92a.sel [3, 0]).set4 rfl rfl).below HA0.out.lt).cell 1 rfl, (HA0.out.of ((Su92a.sel [3, 0]).set4 rfl rfl).below HA0.out.lt).cell 2 rfl, (HA0.out.of ((Su92a.sel [3, 0]).set4 rfl rfl).below HA0.out.lt).cell 3 rfl, (HA1.out.of ((Su92a.sel [3, 0]).set4 rfl rfl).below HA1.out.lt).cell 0 rfl, (HA1.out.of ((Su92a.sel [3, 0]).set4 rfl rfl).below HA1.out.lt).cell 1 rfl, (HA1.out.of ((Su92a.sel [3, 0]).set4 rfl rfl).below HA1.out.lt).cell 2 rfl, (HA1.out.of ((Su92a.sel [3, 0]).set4 rfl rfl).below HA1.out.lt).cell 3 rfl⟩
        | (with_reducible exact ku91b)
        | (with_reducible exact ku91ba _)
        | (with_reducible exact ku92b)
        | (with_reducible exact ku92ba _)
        | exact ⟨(HA0.out.of ((Su92b.sel [2, 0]).set4 rfl rfl).below HA0.out.lt).cell 0 rfl, (HA0.out.of ((Su92b.sel [2, 0]).set4 rfl rfl).below HA0.out.lt).cell 1 rfl, (HA0.out.of ((Su92b.sel [2, 0]).set4 rfl rfl).below HA0.out.lt).cell 2 rfl, (HA0.out.of ((Su92b.sel [2, 0]).set4 rfl rfl).below HA0.out.lt).cell 3 rfl, (HA1.out.of ((Su92b.sel [2, 0]).set4 rfl rfl).below HA1.out.lt).cell 0 rfl, (HA1.out.of ((Su92b.sel [2, 0]).set4 rfl rfl).below HA1.out.lt).cell 1 rfl, (HA1.out.of ((Su92b.sel [2, 0]).set4 rfl rfl).below HA1.out.lt).cell 2 rfl, (HA1.out.of ((Su92b.sel [2, 0]).set4 rfl rfl).below HA1.out.lt).cell 3 rfl⟩
        | (with_reducible exact ku92c)
        | (with_reducible exact ku92ca _)
        | exact ⟨(HA0.out.of ((Su92c.sel [1, 0]).set4 rfl rfl).below HA0.out.lt).cell 0 rfl, (HA0.out.of ((Su92c.sel [1, 0]).set4 rfl rfl).below HA0.out.lt).cell 1 rfl, (HA0.out.of ((Su92c.sel [1, 0]).set4 rfl rfl).below HA0.out.lt).cell 2 rfl, (HA0.out.of ((Su92c.sel [1, 0]).set4 rfl rfl).below HA0.out.lt).cell 3 rfl, (HA1.out.of ((Su92c.sel [1, 0]).set4 rfl rfl).below HA1.out.lt).cell 0 rfl, (HA1.out.of ((Su92c.sel [1, 0]).set4 rfl rfl).below HA1.out.lt).cell 1 rfl, (HA1.out.of ((Su92c.sel [1, 0]).set4 rfl rfl).below HA1.out.lt).cell 2 rfl, (HA1.out.of ((Su92c.sel [1, 0]).set4 rfl rfl).below HA1.out.lt).cell 3 rfl⟩
        | go_keep)
      (first
        | (go_at_call 7
           with_reducible show Calls _ _ _ (World.drew u16) _
           refine (toWriter_any _ r0 w.heap.size _ (by exact Nat.le_trans hb ((Star.nil u16).drew).below.size) (by exact writE.rd_of (HB.out.trans (((Star.nil u16).drew).below.mono hb)) R0.out) hok0.out).mono ?_
           rintro e wu90 ⟨xu90, fu90, rfl, ou90, ndu90, lou90, bu90⟩
           have Su90 := ((Star.nil u16).drew).made ou90 ndu90 lou90 bu90
           have ku90 : ((wu90).cell? ⟨w.heap.size, 0, none⟩ = some (.int .i64 r0.turner.letters) ∧ (wu90).cell? ⟨w.heap.size, 1, none⟩ = some (.int .i64 r0.turner.start) ∧ (wu90).cell? ⟨w.heap.size, 2, none⟩ = some (.slice p0a2 p0n2 p0c2) ∧ (wu90).cell? ⟨w.heap.size, 3, none⟩ = some (.slice p0a3 p0n3 p0c3) ∧ (wu90).cell? ⟨w.heap.size + 1, 0, none⟩ = some (.int .i64 r1.turner.letters) ∧ (wu90).cell? ⟨w.heap.size + 1, 1, none⟩ = some (.int .i64 r1.turner.start) ∧ (wu90).cell? ⟨w.heap.size + 1, 2, none⟩ = some (.slice p1a2 p1n2 p1c2) ∧ (wu90).cell? ⟨w.heap.size + 1, 3, none⟩ = some (.slice p1a3 p1n3 p1c3)) := ⟨(HA0.out.of (Su90).below HA0.out.lt).cell 0 rfl, (HA0.out.of (Su90).below HA0.out.lt).cell 1 rfl, (HA0.out.of (Su90).below HA0.out.lt).cell 2 rfl, (HA0.out.of (Su90).below HA0.out.lt).cell 3 rfl, (HA1.out.of (Su90).below HA1.out.lt).cell 0 rfl, (HA1.out.of (Su90).below HA1.out.lt).cell 1 rfl, (HA1.out.of (Su90).below HA1.out.lt).cell 2 rfl, (HA1.out.of (Su90).below HA1.out.lt).cell 3 rfl⟩
           have ku90a := fun o => (⟨cell_al (ku90.1) o, cell_al (ku90.2.1) o, cell_al (ku90.2.2.1) o, cell_al (ku90.2.2.2.1) o, cell_al (ku90.2.2.2.2.1) o, cell_al (ku90.2.2.2.2.2.1) o, cell_al (ku90.2.2.2.2.2.2.1) o, cell_al (ku90.2.2.2.2.2.2.2) o⟩ : (((wu90).alloc o).cell? ⟨w.heap.size, 0, none⟩ = some (.int .i64 r0.turner.letters) ∧ ((wu90).alloc o).cell? ⟨w.heap.size, 1, none⟩ = some (.int .i64 r0.turner.start) ∧ ((wu90).alloc o).cell? ⟨w.heap.size, 2, none⟩ = some (.slice p0a2 p0n2 p0c2) ∧ ((wu90).alloc o).cell? ⟨w.heap.size, 3, none⟩ = some (.slice p0a3 p0n3 p0c3) ∧ ((wu90).alloc o).cell? ⟨w.heap.size + 1, 0, none⟩ = some (.int .i64 r1.turner.letters) ∧ ((wu90).alloc o).cell? ⟨w.heap.size + 1, 1, none⟩ = some (.int .i64 r1.turner.start) ∧ ((wu90).alloc o).cell? ⟨w.heap.size + 1, 2, none⟩ = some (.slice p1a2 p1n2 p1c2) ∧ ((wu90).alloc o).cell? ⟨w.heap.size + 1, 3, none⟩ = some (.slice p1a3 p1n3 p1c3)))
           have o' := writE.rd_ow ou90
           obtain ⟨zz0v2, zz0v3, rfl, -, -, zz0h2, zz0h3⟩ := rd_WriterF o'
           obtain ⟨zz0a2, zz0n2, zz0c2, rfl⟩ := rd_slice zz0h2
           obtain ⟨zz0a3, zz0n3, zz0c3, rfl⟩ := rd_slice zz0h3
           clear o' zz0h2 zz0h3)
        | (go_at_call 7
           with_reducible show Calls _ _ _ wu90 _
           refine (toWriter_any _ r1 w.heap.size _ (by exact Nat.le_trans hb (Su90).below.size) (by exact writE.rd_of (HB.out.trans ((Su90).below.mono hb)) R1.out) hok1.out).mono ?_
           rintro e wu91 ⟨xu91, fu91, rfl, ou91, ndu91, lou91, bu91⟩
           have Su91 := (Su90).made ou91 ndu91 lou91 bu91
           have ku91 : ((wu91).cell? ⟨w.heap.size, 0, none⟩ = some (.int .i64 r0.turner.letters) ∧ (wu91).cell? ⟨w.heap.size, 1, none⟩ = some (.int .i64 r0.turner.start) ∧ (wu91).cell? ⟨w.heap.size, 2, none⟩ = some (.slice p0a2 p0n2 p0c2) ∧ (wu91).cell? ⟨w.heap.size, 3, none⟩ = some (.slice p0a3 p0n3 p0c3) ∧ (wu91).cell? ⟨w.heap.size + 1, 0, none⟩ = some (.int .i64 r1.turner.letters) ∧ (wu91).cell? ⟨w.heap.size + 1, 1, none⟩ = some (.int .i64 r1.turner.start) ∧ (wu91).cell? ⟨w.heap.size + 1, 2, none⟩ = some (.slice p1a2 p1n2 p1c2) ∧ (wu91).cell? ⟨w.heap.size + 1, 3, none⟩ = some (.slice p1a3 p1n3 p1c3)) := ⟨(HA0.out.of (Su91).below HA0.out.lt).cell 0 rfl, (HA0.out.of (Su91).below HA0.out.lt).cell 1 rfl, (HA0.out.of (Su91).below HA0.out.lt).cell 2 rfl, (HA0.out.of (Su91).below HA0.out.lt).cell 3 rfl, (HA1.out.of (Su91).below HA1.out.lt).cell 0 rfl, (HA1.out.of (Su91).below HA1.out.lt).cell 1 rfl, (HA1.out.of (Su91).below HA1.out.lt).cell 2 rfl, (HA1.out.of (Su91).below HA1.out.lt).cell 3 rfl⟩
           have ku91a := fun o => (⟨cell_al (ku91.1) o, cell_al (ku91.2.1) o, cell_al (ku91.2.2.1) o, cell_al (ku91.2.2.2.1) o, cell_al (ku91.2.2.2.2.1) o, cell_al (ku91.2.2.2.2.2.1) o, cell_al (ku91.2.2.2.2.2.2.1) o, cell_al (ku91.2.2.2.2.2.2.2) o⟩ : (((wu91).alloc o).cell? ⟨w.heap.size, 0, none⟩ = some (.int .i64 r0.turner.letters) ∧ ((wu91).alloc o).cell? ⟨w.heap.size, 1, none⟩ = some (.int .i64 r0.turner.start) ∧ ((wu91).alloc o).cell? ⟨w.heap.size, 2, none⟩ = some (.slice p0a2 p0n2 p0c2) ∧ ((wu91).alloc o).cell? ⟨w.heap.size, 3, none⟩ = some (.slice p0a3 p0n3 p0c3) ∧ ((wu91).alloc o).cell? ⟨w.heap.size + 1, 0, none⟩ = some (.int .i64 r1.turner.letters) ∧ ((wu91).alloc o).cell? ⟨w.heap.size + 1, 1, none⟩ = some (.int .i64 r1.turner.start) ∧ ((wu91).alloc o).cell? ⟨w.heap.size + 1, 2, none⟩ = some (.slice p1a2 p1n2 p1c2) ∧ ((wu91).alloc o).cell? ⟨w.heap.size + 1, 3, none⟩ = some (.slice p1a3 p1n3 p1c3)))
           have o' := writE.rd_ow ou91
           obtain ⟨zz1v2, zz1v3, rfl, -, -, zz1h2, zz1h3⟩ := rd_WriterF o'
           obtain ⟨zz1a2, zz1n2, zz1c2, rfl⟩ := rd_slice zz1h2
           obtain ⟨zz1a3, zz1n3, zz1c3, rfl⟩ := rd_slice zz1h3
           clear o' zz1h2 zz1h3)
        | (go_at_call 11
           with_reducible show Calls _ _ _ wu91 _
           refine (joinWriters_is rs _ r0 _ r1 _ _ (Nat.le_refl _) (by exact (Su91).rd 1 rfl) (by exact (Su91).rd 0 rfl) HRS.out).mono ?_
           rintro e wu92 ⟨xu92, fu92, rfl, ou92, ndu92, lou92, bu92⟩
           have Su92 := (Su91).made ou92 ndu92 lou92 bu92
           have ku92 : ((wu92).cell? ⟨w.heap.size, 0, none⟩ = some (.int .i64 r0.turner.letters) ∧ (wu92).cell? ⟨w.heap.size, 1, none⟩ = some (.int .i64 r0.turner.start) ∧ (wu92).cell? ⟨w.heap.size, 2, none⟩ = some (.slice p0a2 p0n2 p0c2) ∧ (wu92).cell? ⟨w.heap.size, 3, none⟩ = some (.slice p0a3 p0n3 p0c3) ∧ (wu92).cell? ⟨w.heap.size + 1, 0, none⟩ = some (.int .i64 r1.turner.letters) ∧ (wu92).cell? ⟨w.heap.size + 1, 1, none⟩ = some (.int .i64 r1.turner.start) ∧ (wu92).cell? ⟨w.heap.size + 1, 2, none⟩ = some (.slice p1a2 p1n2 p1c2) ∧ (wu92).cell? ⟨w.heap.size + 1, 3, none⟩ = some (.slice p1a3 p1n3 p1c3)) := ⟨(HA0.out.of (Su92).below HA0.out.lt).cell 0 rfl, (HA0.out.of (Su92).below HA0.out.lt).cell 1 rfl, (HA0.out.of (Su92).below HA0.out.lt).cell 2 rfl, (HA0.out.of (Su92).below HA0.out.lt).cell 3 rfl, (HA1.out.of (Su92).below HA1.out.lt).cell 0 rfl, (HA1.out.of (Su92).below HA1.out.lt).cell 1 rfl, (HA1.out.of (Su92).below HA1.out.lt).cell 2 rfl, (HA1.out.of (Su92).below HA1.out.lt).cell 3 rfl⟩
           have ku92a := fun o => (⟨cell_al (ku92.1) o, cell_al (ku92.2.1) o, cell_al (ku92.2.2.1) o, cell_al (ku92.2.2.2.1) o, cell_al (ku92.2.2.2.2.1) o, cell_al (ku92.2.2.2.2.2.1) o, cell_al (ku92.2.2.2.2.2.2.1) o, cell_al (ku92.2.2.2.2.2.2.2) o⟩ : (((wu92).alloc o).cell? ⟨w.heap.size, 0, none⟩ = some (.int .i64 r0.turner.letters) ∧ ((wu92).alloc o).cell? ⟨w.heap.size, 1, none⟩ = some (.int .i64 r0.turner.start) ∧ ((wu92).alloc o).cell? ⟨w.heap.size, 2, none⟩ = some (.slice p0a2 p0n2 p0c2) ∧ ((wu92).alloc o).cell? ⟨w.heap.size, 3, none⟩ = some (.slice p0a3 p0n3 p0c3) ∧ ((wu92).alloc o).cell? ⟨w.heap.size + 1, 0, none⟩ = some (.int .i64 r1.turner.letters) ∧ ((wu92).alloc o).cell? ⟨w.heap.size + 1, 1, none⟩ = some (.int .i64 r1.turner.start) ∧ ((wu92).alloc o).cell? ⟨w.heap.size + 1, 2, none⟩ = some (.slice p1a2 p1n2 p1c2) ∧ ((wu92).alloc o).cell? ⟨w.heap.size + 1, 3, none⟩ = some (.slice p1a3 p1n3 p1c3)))
           have o' := writE.rd_ow ou92
           obtain ⟨hhv2, hhv3, rfl, -, -, hhh2, hhh3⟩ := rd_WriterF o'
           obtain ⟨hha2, hhn2, hhc2, rfl⟩ := rd_slice hhh2
           obtain ⟨hha3, hhn3, hhc3, rfl⟩ := rd_slice hhh3
           clear o' hhh2 hhh3)
        | (go_at_call 7
           with_reducible show Calls _ _ _ (World.drew (World.alloc u16 _)) _
           refine (toWriter_any _ r0 w.heap.size _ (by exact Nat.le_trans hb (((Star.nil u16).alloc (cs := #[.int .i64 0, .int .i64 0, .slice none 0 0, .slice none 0 0]) (ty := 34)).drew).below.size) (by exact writE.rd_of (HB.out.trans ((((Star.nil u16).alloc (cs := #[.int .i64 0, .int .i64 0, .slice none 0 0, .slice none 0 0]) (ty := 34)).drew).below.mono hb)) R0.out) hok0.out).mono ?_
           rintro e wu90a ⟨xu90a, fu90a, rfl, ou90a, ndu90a, lou90a, bu90a⟩
           have Su90a := (((Star.nil u16).alloc (cs := #[.int .i64 0, .int .i64 0, .slice none 0 0, .slice none 0 0]) (ty := 34)).drew).made ou90a ndu90a lou90a bu90a
           have ku90a : ((wu90a).cell? ⟨w.heap.size, 0, none⟩ = some (.int .i64 r0.turner.letters) ∧ (wu90a).cell? ⟨w.heap.size, 1, none⟩ = some (.int .i64 r0.turner.start) ∧ (wu90a).cell? ⟨w.heap.size, 2, none⟩ = some (.slice p0a2 p0n2 p0c2) ∧ (wu90a).cell? ⟨w.heap.size, 3, none⟩ = some (.slice p0a3 p0n3 p0c3) ∧ (wu90a).cell? ⟨w.heap.size + 1, 0, none⟩ = some (.int .i64 r1.turner.letters) ∧ (wu90a).cell? ⟨w.heap.size + 1, 1, none⟩ = some (.int .i64 r1.turner.start) ∧ (wu90a).cell? ⟨w.heap.size + 1, 2, none⟩ = some (.slice p1a2 p1n2 p1c2) ∧ (wu90a).cell? ⟨w.heap.size + 1, 3, none⟩ = some (.slice p1a3 p1n3 p1c3)) := ⟨(HA0.out.of (Su90a).below HA0.out.lt).cell 0 rfl, (HA0.out.of (Su90a).below HA0.out.lt).cell 1 rfl, (HA0.out.of (Su90a).below HA0.out.lt).cell 2 rfl, (HA0.out.of (Su90a).below HA0.out.lt).cell 3 rfl, (HA1.out.of (Su90a).below HA1.out.lt).cell 0 rfl, (HA1.out.of (Su90a).below HA1.out.lt).cell 1 rfl, (HA1.out.of (Su90a).below HA1.out.lt).cell 2 rfl, (HA1.out.of (Su90a).below HA1.out.lt).cell 3 rfl⟩
           have ku90aa := fun o => (⟨cell_al (ku90a.1) o, cell_al (ku90a.2.1) o, cell_al (ku90a.2.2.1) o, cell_al (ku90a.2.2.2.1) o, cell_al (ku90a.2.2.2.2.1) o, cell_al (ku90a.2.2.2.2.2.1) o, cell_al (ku90a.2.2.2.2.2.2.1) o, cell_al (ku90a.2.2.2.2.2.2.2) o⟩ : (((wu90a).alloc o).cell? ⟨w.heap.size, 0, none⟩ = some (.int .i64 r0.turner.letters) ∧ ((wu90a).alloc o).cell? ⟨w.heap.size, 1, none⟩ = some (.int .i64 r0.turner.start) ∧ ((wu90a).alloc o).cell? ⟨w.heap.size, 2, none⟩ = some (.slice p0a2 p0n2 p0c2) ∧ ((wu90a).alloc o).cell? ⟨w.heap.size, 3, none⟩ = some (.slice p0a3 p0n3 p0c3) ∧ ((wu90a).alloc o).cell? ⟨w.heap.size + 1, 0, none⟩ = some (.int .i64 r1.turner.letters) ∧ ((wu90a).alloc o).cell? ⟨w.heap.size + 1, 1, none⟩ = some (.int .i64 r1.turner.start) ∧ ((wu90a).alloc o).cell? ⟨w.heap.size + 1, 2, none⟩ = some (.slice p1a2 p1n2 p1c2) ∧ ((wu90a).alloc o).cell? ⟨w.heap.size + 1, 3, none⟩ = some (.slice p1a3 p1n3 p1c3)))
           have o' := writE.rd_ow ou90a
           obtain ⟨zz0v2, zz0v3, rfl, -, -, zz0h2, zz0h3⟩ := rd_WriterF o'
           obtain ⟨zz0a2, zz0n2, zz0c2, rfl⟩ := rd_slice zz0h2
           obtain ⟨zz0a3, zz0n3, zz0c3, rfl⟩ := rd_slice zz0h3
           clear o' zz0h2 zz0h3)
        | (go_at_call 7
           with_reducible show Calls _ _ _ wu90a _
           refine (toWriter_any _ r1 w.heap.size _ (by exact Nat.le_trans hb (Su90a).below.size) (by exact writE.rd_of (HB.out.trans ((Su90a).below.mono hb)) R1.out) hok1.out).mono ?_
           rintro e wu91a ⟨xu91a, fu91a, rfl, ou91a, ndu91a, lou91a, bu91a⟩
           have Su91a := (Su90a).made ou91a ndu91a lou91a bu91a
           have ku91a : ((wu91a).cell? ⟨w.heap.size, 0, none⟩ = some (.int .i64 r0.turner.letters) ∧ (wu91a).cell? ⟨w.heap.size, 1, none⟩ = some (.int .i64 r0.turner.start) ∧ (wu91a).cell? ⟨w.heap.size, 2, none⟩ = some (.slice p0a2 p0n2 p0c2) ∧ (wu91a).cell? ⟨w.heap.size, 3, none⟩ = some (.slice p0a3 p0n3 p0c3) ∧ (wu91a).cell? ⟨w.heap.size + 1, 0, none⟩ = some (.int .i64 r1.turner.letters) ∧ (wu91a).cell? ⟨w.heap.size + 1, 1, none⟩ = some (.int .i64 r1.turner.start) ∧ (wu91a).cell? ⟨w.heap.size + 1, 2, none⟩ = some (.slice p1a2 p1n2 p1c2) ∧ (wu91a).cell? ⟨w.heap.size + 1, 3, none⟩ = some (.slice p1a3 p1n3 p1c3)) := ⟨(HA0.out.of (Su91a).below HA0.out.lt).cell 0 rfl, (HA0.out.of (Su91a).below HA0.out.lt).cell 1 rfl, (HA0.out.of (Su91a).below HA0.out.lt).cell 2 rfl, (HA0.out.of (Su91a).below HA0.out.lt).cell 3 rfl, (HA1.out.of (Su91a).below HA1.out.lt).cell 0 rfl, (HA1.out.of (Su91a).below HA1.out.lt).cell 1 rfl, (HA1.out.of (Su91a).below HA1.out.lt).cell 2 rfl, (HA1.out.of (Su91a).below HA1.out.lt).cell 3 rfl⟩
           have ku91aa := fun o => (⟨cell_al (ku91a.1) o, cell_al (ku91a.2.1) o, cell_al (ku91a.2.2.1) o, cell_al (ku91a.2.2.2.1) o, cell_al (ku91a.2.2.2.2.1) o, cell_al (ku91a.2.2.2.2.2.1) o, cell_al (ku91a.2.2.2.2.2.2.1) o, cell_al (ku91a.2.2.2.2.2.2.2) o⟩ : (((wu91a).alloc o).cell? ⟨w.heap.size, 0, none⟩ = some (.int .i64 r0.turner.letters) ∧ ((wu91a).alloc o).cell? ⟨w.heap.size, 1, none⟩ = some (.int .i64 r0.turner.start) ∧ ((wu91a).alloc o).cell? ⟨w.heap.size, 2, none⟩ = some (.slice p0a2 p0n2 p0c2) ∧ ((wu91a).alloc o).cell? ⟨w.heap.size, 3, none⟩ = some (.slice p0a3 p0n3 p0c3) ∧ ((wu91a).alloc o).cell? ⟨w.heap.size + 1, 0, none⟩ = some (.int .i64 r1.turner.letters) ∧ ((wu91a).alloc o).cell? ⟨w.heap.size + 1, 1, none⟩ = some (.int .i64 r1.turner.start) ∧ ((wu91a).alloc o).cell? ⟨w.heap.size + 1, 2, none⟩ = some (.slice p1a2 p1n2 p1c2) ∧ ((wu91a).alloc o).cell? ⟨w.heap.size + 1, 3, none⟩ = some (.slice p1a3 p1n3 p1c3)))
           have o' := writE.rd_ow ou91a
           obtain ⟨zz1v2, zz1v3, rfl, -, -, zz1h2, zz1h3⟩ := rd_WriterF o'
           obtain ⟨zz1a2, zz1n2, zz1c2, rfl⟩ := rd_slice zz1h2
           obtain ⟨zz1a3, zz1n3, zz1c3, rfl⟩ := rd_slice zz1h3
           clear o' zz1h2 zz1h3)
        | (go_at_call 11
           with_reducible show Calls _ _ _ wu91a _
           refine (joinWriters_is rs _ r0 _ r1 _ _ (Nat.le_refl _) (by exact (Su91a).rd 1 rfl) (by exact (Su91a).rd 0 rfl) HRS.out).mono ?_
           rintro e wu92a ⟨xu92a, fu92a, rfl, ou92a, ndu92a, lou92a, bu92a⟩
           have Su92a := (Su91a).made ou92a ndu92a lou92a bu92a
           have ku92a : ((wu92a).cell? ⟨w.heap.size, 0, none⟩ = some (.int .i64 r0.turner.letters) ∧ (wu92a).cell? ⟨w.heap.size, 1, none⟩ = some (.int .i64 r0.turner.start) ∧ (wu92a).cell? ⟨w.heap.size, 2, none⟩ = some (.slice p0a2 p0n2 p0c2) ∧ (wu92a).cell? ⟨w.heap.size, 3, none⟩ = some (.slice p0a3 p0n3 p0c3) ∧ (wu92a).cell? ⟨w.heap.size + 1, 0, none⟩ = some (.int .i64 r1.turner.letters) ∧ (wu92a).cell? ⟨w.heap.size + 1, 1, none⟩ = some (.int .i64 r1.turner.start) ∧ (wu92a).cell? ⟨w.heap.size + 1, 2, none⟩ = some (.slice p1a2 p1n2 p1c2) ∧ (wu92a).cell? ⟨w.heap.size + 1, 3, none⟩ = some (.slice p1a3 p1n3 p1c3)) := ⟨(HA0.out.of (Su92a).below HA0.out.lt).cell 0 rfl, (HA0.out.of (Su92a).below HA0.out.lt).cell 1 rfl, (HA0.out.of (Su92a).below HA0.out.lt).cell 2 rfl, (HA0.out.of (Su92a).below HA0.out.lt).cell 3 rfl, (HA1.out.of (Su92a).below HA1.out.lt).cell 0 rfl, (HA1.out.of (Su92a).below HA1.out.lt).cell 1 rfl, (HA1.out.of (Su92a).below HA1.out.lt).cell 2 rfl, (HA1.out.of (Su92a).below HA1.out.lt).cell 3 rfl⟩
           have ku92aa := fun o => (⟨cell_al (ku92a.1) o, cell_al (ku92a.2.1) o, cell_al (ku92a.2.2.1) o, cell_al (ku92a.2.2.2.1) o, cell_al (ku92a.2.2.2.2.1) o, cell_al (ku92a.2.2.2.2.2.1) o, cell_al (ku92a.2.2.2.2.2.2.1) o, cell_al (ku92a.2.2.2.2.2.2.2) o⟩ : (((wu92a).alloc o).cell? ⟨w.heap.size, 0, none⟩ = some (.int .i64 r0.turner.letters) ∧ ((wu92a).alloc o).cell? ⟨w.heap.size, 1, none⟩ = some (.int .i64 r0.turner.start) ∧ ((wu92a).alloc o).cell? ⟨w.heap.size, 2, none⟩ = some (.slice p0a2 p0n2 p0c2) ∧ ((wu92a).alloc o).cell? ⟨w.heap.size, 3, none⟩ = some (.slice p0a3 p0n3 p0c3) ∧ ((wu92a).alloc o).cell? ⟨w.heap.size + 1, 0, none⟩ = some (.int .i64 r1.turner.letters) ∧ ((wu92a).alloc o).cell? ⟨w.heap.size + 1, 1, none⟩ = some (.int .i64 r1.turner.start) ∧ ((wu92a).alloc o).cell? ⟨w.heap.size + 1, 2, none⟩ = some (.slice p1a2 p1n2 p1c2) ∧ ((wu92a).alloc o).cell? ⟨w.heap.size + 1, 3, none⟩ = some (.slice p1a3 p1n3 p1c3)))
           have o' := writE.rd_ow ou92a
           obtain ⟨hhv2, hhv3, rfl, -, -, hhh2, hhh3⟩ := rd_WriterF o'
           obtain ⟨hha2, hhn2, hhc2, rfl⟩ := rd_slice hhh2
           obtain ⟨hha3, hhn3, hhc3, rfl⟩ := rd_slice hhh3
           clear o' hhh2 hhh3
           have z0 := (Su92a.blk 3 rfl).cell 0 rfl
           have z1 := (Su92a.blk 3 rfl).cell 1 rfl
           have z2 := (Su92a.blk 3 rfl).cell 2 rfl
           have z3 := (Su92a.blk 3 rfl).cell 3 rfl
           have zf := (Su92a.blk 3 rfl).free)
        | (go_at_call 7
           with_reducible show Calls _ _ _ (World.alloc wu90 _) _
           refine (toWriter_any _ r1 w.heap.size _ (by exact Nat.le_trans hb ((Su90.alloc (cs := #[.int .i64 0, .int .i64 0, .slice none 0 0, .slice none 0 0]) (ty := 34))).below.size) (by exact writE.rd_of (HB.out.trans (((Su90.alloc (cs := #[.int .i64 0, .int .i64 0, .slice none 0 0, .slice none 0 0]) (ty := 34))).below.mono hb)) R1.out) hok1.out).mono ?_
           rintro e wu91b ⟨xu91b, fu91b, rfl, ou91b, ndu91b, lou91b, bu91b⟩
           have Su91b := ((Su90.alloc (cs := #[.int .i64 0, .int .i64 0, .slice none 0 0, .slice none 0 0]) (ty := 34))).made ou91b ndu91b lou91b bu91b
           have ku91b : ((wu91b).cell? ⟨w.heap.size, 0, none⟩ = some (.int .i64 r0.turner.letters) ∧ (wu91b).cell? ⟨w.heap.size, 1, none⟩ = some (.int .i64 r0.turner.start) ∧ (wu91b).cell? ⟨w.heap.size, 2, none⟩ = some (.slice p0a2 p0n2 p0c2) ∧ (wu91b).cell? ⟨w.heap.size, 3, none⟩ = some (.slice p0a3 p0n3 p0c3) ∧ (wu91b).cell? ⟨w.heap.size + 1, 0, none⟩ = some (.int .i64 r1.turner.letters) ∧ (wu91b).cell? ⟨w.heap.size + 1, 1, none⟩ = some (.int .i64 r1.turner.start) ∧ (wu91b).cell? ⟨w.heap.size + 1, 2, none⟩ = some (.slice p1a2 p1n2 p1c2) ∧ (wu91b).cell? ⟨w.heap.size + 1, 3, none⟩ = some (.slice p1a3 p1n3 p1c3)) := ⟨(HA0.out.of (Su91b).below HA0.out.lt).cell 0 rfl, (HA0.out.of (Su91b).below HA0.out.lt).cell 1 rfl, (HA0.out.of (Su91b).below HA0.out.lt).cell 2 rfl, (HA0.out.of (Su91b).below HA0.out.lt).cell 3 rfl, (HA1.out.of (Su91b).below HA1.out.lt).cell 0 rfl, (HA1.out.of (Su91b).below HA1.out.lt).cell 1 rfl, (HA1.out.of (Su91b).below HA1.out.lt).cell 2 rfl, (HA1.out.of (Su91b).below HA1.out.lt).cell 3 rfl⟩
           have ku91ba := fun o => (⟨cell_al (ku91b.1) o, cell_al (ku91b.2.1) o, cell_al (ku91b.2.2.1) o, cell_al (ku91b.2.2.2.1) o, cell_al (ku91b.2.2.2.2.1) o, cell_al (ku91b.2.2.2.2.2.1) o, cell_al (ku91b.2.2.2.2.2.2.1) o, cell_al (ku91b.2.2.2.2.2.2.2) o⟩ : (((wu91b).alloc o).cell? ⟨w.heap.size, 0, none⟩ = some (.int .i64 r0.turner.letters) ∧ ((wu91b).alloc o).cell? ⟨w.heap.size, 1, none⟩ = some (.int .i64 r0.turner.start) ∧ ((wu91b).alloc o).cell? ⟨w.heap.size, 2, none⟩ = some (.slice p0a2 p0n2 p0c2) ∧ ((wu91b).alloc o).cell? ⟨w.heap.size, 3, none⟩ = some (.slice p0a3 p0n3 p0c3) ∧ ((wu91b).alloc o).cell? ⟨w.heap.size + 1, 0, none⟩ = some (.int .i64 r1.turner.letters) ∧ ((wu91b).alloc o).cell? ⟨w.heap.size + 1, 1, none⟩ = some (.int .i64 r1.turner.start) ∧ ((wu91b).alloc o).cell? ⟨w.heap.size + 1, 2, none⟩ = some (.slice p1a2 p1n2 p1c2) ∧ ((wu91b).alloc o).cell? ⟨w.heap.size + 1, 3, none⟩ = some (.slice p1a3 p1n3 p1c3)))
           have o' := writE.rd_ow ou91b
           obtain ⟨zz1v2, zz1v3, rfl, -, -, zz1h2, zz1h3⟩ := rd_WriterF o'
           obtain ⟨zz1a2, zz1n2, zz1c2, rfl⟩ := rd_slice zz1h2
           obtain ⟨zz1a3, zz1n3, zz1c3, rfl⟩ := rd_slice zz1h3
           clear o' zz1h2 zz1h3)
        | (go_at_call 11
           with_reducible show Calls _ _ _ wu91b _
           refine (joinWriters_is rs _ r0 _ r1 _ _ (Nat.le_refl _) (by exact (Su91b).rd 2 rfl) (by exact (Su91b).rd 0 rfl) HRS.out).mono ?_
           rintro e wu92b ⟨xu92b, fu92b, rfl, ou92b, ndu92b, lou92b, bu92b⟩
           have Su92b := (Su91b).made ou92b ndu92b lou92b bu92b
           have ku92b : ((wu92b).cell? ⟨w.heap.size, 0, none⟩ = some (.int .i64 r0.turner.letters) ∧ (wu92b).cell? ⟨w.heap.size, 1, none⟩ = some (.int .i64 r0.turner.start) ∧ (wu92b).cell? ⟨w.heap.size, 2, none⟩ = some (.slice p0a2 p0n2 p0c2) ∧ (wu92b).cell? ⟨w.heap.size, 3, none⟩ = some (.slice p0a3 p0n3 p0c3) ∧ (wu92b).cell? ⟨w.heap.size + 1, 0, none⟩ = some (.int .i64 r1.turner.letters) ∧ (wu92b).cell? ⟨w.heap.size + 1, 1, none⟩ = some (.int .i64 r1.turner.start) ∧ (wu92b).cell? ⟨w.heap.size + 1, 2, none⟩ = some (.slice p1a2 p1n2 p1c2) ∧ (wu92b).cell? ⟨w.heap.size + 1, 3, none⟩ = some (.slice p1a3 p1n3 p1c3)) := ⟨(HA0.out.of (Su92b).below HA0.out.lt).cell 0 rfl, (HA0.out.of (Su92b).below HA0.out.lt).cell 1 rfl, (HA0.out.of (Su92b).below HA0.out.lt).cell 2 rfl, (HA0.out.of (Su92b).below HA0.out.lt).cell 3 rfl, (HA1.out.of (Su92b).below HA1.out.lt).cell 0 rfl, (HA1.out.of (Su92b).below HA1.out.lt).cell 1 rfl, (HA1.out.of (Su92b).below HA1.out.lt).cell 2 rfl, (HA1.out.of (Su92b).below HA1.out.lt).cell 3 rfl⟩
           have ku92ba := fun o => (⟨cell_al (ku92b.1) o, cell_al (ku92b.2.1) o, cell_al (ku92b.2.2.1) o, cell_al (ku92b.2.2.2.1) o, cell_al (ku92b.2.2.2.2.1) o, cell_al (ku92b.2.2.2.2.2.1) o, cell_al (ku92b.2.2.2.2.2.2.1) o, cell_al (ku92b.2.2.2.2.2.2.2) o⟩ : (((wu92b).alloc o).cell? ⟨w.heap.size, 0, none⟩ = some (.int .i64 r0.turner.letters) ∧ ((wu92b).alloc o).cell? ⟨w.heap.size, 1, none⟩ = some (.int .i64 r0.turner.start) ∧ ((wu92b).alloc o).cell? ⟨w.heap.size, 2, none⟩ = some (.slice p0a2 p0n2 p0c2) ∧ ((wu92b).alloc o).cell? ⟨w.heap.size, 3, none⟩ = some (.slice p0a3 p0n3 p0c3) ∧ ((wu92b).alloc o).cell? ⟨w.heap.size + 1, 0, none⟩ = some (.int .i64 r1.turner.letters) ∧ ((wu92b).alloc o).cell? ⟨w.heap.size + 1, 1, none⟩ = some (.int .i64 r1.turner.start) ∧ ((wu92b).alloc o).cell? ⟨w.heap.size + 1, 2, none⟩ = some (.slice p1a2 p1n2 p1c2) ∧ ((wu92b).alloc o).cell? ⟨w.heap.size + 1, 3, none⟩ = some (.slice p1a3 p1n3 p1c3)))
           have o' := writE.rd_ow ou92b
           obtain ⟨hhv2, hhv3, rfl, -, -, hhh2, hhh3⟩ := rd_WriterF o'
           obtain ⟨hha2, hhn2, hhc2, rfl⟩ := rd_slice hhh2
           obtain ⟨hha3, hhn3, hhc3, rfl⟩ := rd_slice hhh3
           clear o' hhh2 hhh3
           have z0 := (Su92b.blk 2 rfl).cell 0 rfl
           have z1 := (Su92b.blk 2 rfl).cell 1 rfl
           have z2 := (Su92b.blk 2 rfl).cell 2 rfl
           have z3 := (Su92b.blk 2 rfl).cell 3 rfl
           have zf := (Su92b.blk 2 rfl).free)
        | (go_at_call 11
           with_reducible show Calls _ _ _ (World.alloc wu91 _) _
           refine (joinWriters_is rs _ r0 _ r1 _ _ (Nat.le_refl _) (by exact ((Su91.alloc (cs := #[.int .i64 0, .int .i64 0, .slice none 0 0, .slice none 0 0]) (ty := 34))).rd 2 rfl) (by exact ((Su91.alloc (cs := #[.int .i64 0, .int .i64 0, .slice none 0 0, .slice none 0 0]) (ty := 34))).rd 1 rfl) HRS.out).mono ?_
           rintro e wu92c ⟨xu92c, fu92c, rfl, ou92c, ndu92c, lou92c, bu92c⟩
           have Su92c := ((Su91.alloc (cs := #[.int .i64 0, .int .i64 0, .slice none 0 0, .slice none 0 0]) (ty := 34))).made ou92c ndu92c lou92c bu92c
           have ku92c : ((wu92c).cell? ⟨w.heap.size, 0, none⟩ = some (.int .i64 r0.turner.letters) ∧ (wu92c).cell? ⟨w.heap.size, 1, none⟩ = some (.int .i64 r0.turner.start) ∧ (wu92c).cell? ⟨w.heap.size, 2, none⟩ = some (.slice p0a2 p0n2 p0c2) ∧ (wu92c).cell? ⟨w.heap.size, 3, none⟩ = some (.slice p0a3 p0n3 p0c3) ∧ (wu92c).cell? ⟨w.heap.size + 1, 0, none⟩ = some (.int .i64 r1.turner.letters) ∧ (wu92c).cell? ⟨w.heap.size + 1, 1, none⟩ = some (.int .i64 r1.turner.start) ∧ (wu92c).cell? ⟨w.heap.size + 1, 2, none⟩ = some (.slice p1a2 p1n2 p1c2) ∧ (wu92c).cell? ⟨w.heap.size + 1, 3, none⟩ = some (.slice p1a3 p1n3 p1c3)) := ⟨(HA0.out.of (Su92c).below HA0.out.lt).cell 0 rfl, (HA0.out.of (Su92c).below HA0.out.lt).cell 1 rfl, (HA0.out.of (Su92c).below HA0.out.lt).cell 2 rfl, (HA0.out.of (Su92c).below HA0.out.lt).cell 3 rfl, (HA1.out.of (Su92c).below HA1.out.lt).cell 0 rfl, (HA1.out.of (Su92c).below HA1.out.lt).cell 1 rfl, (HA1.out.of (Su92c).below HA1.out.lt).cell 2 rfl, (HA1.out.of (Su92c).below HA1.out.lt).cell 3 rfl⟩
           have ku92ca := fun o => (⟨cell_al (ku92c.1) o, cell_al (ku92c.2.1) o, cell_al (ku92c.2.2.1) o, cell_al (ku92c.2.2.2.1) o, cell_al (ku92c.2.2.2.2.1) o, cell_al (ku92c.2.2.2.2.2.1) o, cell_al (ku92c.2.2.2.2.2.2.1) o, cell_al (ku92c.2.2.2.2.2.2.2) o⟩ : (((wu92c).alloc o).cell? ⟨w.heap.size, 0, none⟩ = some (.int .i64 r0.turner.letters) ∧ ((wu92c).alloc o).cell? ⟨w.heap.size, 1, none⟩ = some (.int .i64 r0.turner.start) ∧ ((wu92c).alloc o).cell? ⟨w.heap.size, 2, none⟩ = some (.slice p0a2 p0n2 p0c2) ∧ ((wu92c).alloc o).cell? ⟨w.heap.size, 3, none⟩ = some (.slice p0a3 p0n3 p0c3) ∧ ((wu92c).alloc o).cell? ⟨w.heap.size + 1, 0, none⟩ = some (.int .i64 r1.turner.letters) ∧ ((wu92c).alloc o).cell? ⟨w.heap.size + 1, 1, none⟩ = some (.int .i64 r1.turner.start) ∧ ((wu92c).alloc o).cell? ⟨w.heap.size + 1, 2, none⟩ = some (.slice p1a2 p1n2 p1c2) ∧ ((wu92c).alloc o).cell? ⟨w.heap.size + 1, 3, none⟩ = some (.slice p1a3 p1n3 p1c3)))
           have o' := writE.rd_ow ou92c
           obtain ⟨hhv2, hhv3, rfl, -, -, hhh2, hhh3⟩ := rd_WriterF o'
           obtain ⟨hha2, hhn2, hhc2, rfl⟩ := rd_slice hhh2
           obtain ⟨hha3, hhn3, hhc3, rfl⟩ := rd_slice hhh3
           clear o' hhh2 hhh3
           have z0 := (Su92c.blk 1 rfl).cell 0 rfl
           have z1 := (Su92c.blk 1 rfl).cell 1 rfl
           have z2 := (Su92c.blk 1 rfl).cell 2 rfl
           have z3 := (Su92c.blk 1 rfl).cell 3 rfl
           have zf := (Su92c.blk 1 rfl).free))
    all_goals
      go_wp2_with fail
      go_meet
      first
        | exact ⟨_, hha2, hhn2, hhc2, hha3, hhn3, hhc3, rfl, rfl, (Su92.alloc (cs := #[.int .i64 rs.1.turner.letters, .int .i64 rs.1.turner.start, .slice hha2 hhn2 hhc2, .slice hha3 hhn3 hhc3]) (ty := 34)).sel [0, 1]⟩
        | exact ⟨_, hha2, hhn2, hhc2, hha3, hhn3, hhc3, rfl, rfl, (Su92a.sel [3, 0]).set4 rfl rfl⟩
        | exact ⟨_, hha2, hhn2, hhc2, hha3, hhn3, hhc3, rfl, rfl, (Su92b.sel [2, 0]).set4 rfl rfl⟩
        | exact ⟨_, hha2, hhn2, hhc2, hha3, hhn3, hhc3, rfl, rfl, (Su92c.sel [1, 0]).set4 rfl rfl⟩
  clear k0 k0a
  obtain ⟨gH0, hha2, hhn2, hhc2, hha3, hhn3, hhc3, rfl, rfl, S⟩ := hcut
  generalize wc = u17 at S ⊢
  have qH0 := S.blk 0 rfl
  obtain ⟨fOh, oN, ndN, loN⟩ := (S.sel [1]).out
  have bN := S.below
  clear S
  have B := HB.out
  have A0 := HA0.out
  have A1 := HA1.out
  have W0 := HW0.out
  have G0 := HG0.out
  have Ow := HOw.out
  have Og := HOg.out
  clear HB hb HA0 HA1 HW0 HG0 HOw HOg
  have z18 := bN.size
  replace B := B.trans (bN.mono B.size)
  replace A0 := A0.of bN A0.lt
  replace A1 := A1.of bN A1.lt
  replace W0 := W0.of bN W0.lt
  replace G0 := G0.of bN G0.lt
  replace Ow := writE.ow_of bN Ow
  replace Og := writE.ow_of bN Og
  clear bN
  have LOOh := Lib.hid loN; have NDOh := Lib.hid ndN; have HIOh := Lib.hid (writE.ow_lt oN)
  have Oh := oN
  clear oN ndN loN
  have H0 := qH0; have lH0 := H0.lt; clear qH0
  have dH00 := H0.cell 0 rfl
  have dH01 := H0.cell 1 rfl
  have dH02 := H0.cell 2 rfl
  have dH03 := H0.cell 3 rfl
  have dW00 := W0.cell 0 rfl
  have dW01 := W0.cell 1 rfl
  have dW02 := W0.cell 2 rfl
  have dW03 := W0.cell 3 rfl
  go_wp2_with fail
  clear dH00 dH01 dH02 dH03 dW00 dW01 dW02 dW03
  refine (eqWriter_is true _ _ rs.1 rs.1 _ _ _ (Nat.le_refl _) (Nat.le_refl _) (writE.rd_ow Oh) (writE.rd_ow Ow) (decide_eq_true rfl)).mono ?_
  rintro e u18 ⟨rfl, b⟩
  have z19 := b.size
  replace B := B.trans (b.mono B.size)
  replace A0 := A0.of b A0.lt
  replace A1 := A1.of b A1.lt
  replace W0 := W0.of b W0.lt
  replace G0 := G0.of b G0.lt
  replace H0 := H0.of b H0.lt
  replace Ow := writE.ow_of b Ow
  replace Og := writE.ow_of b Og
  replace Oh := writE.ow_of b Oh
  clear b
  have dG00 := G0.cell 0 rfl
  have dG01 := G0.cell 1 rfl
  have dG02 := G0.cell 2 rfl
  have dG03 := G0.cell 3 rfl
  go_wp2_with fail
  clear dG00 dG01 dG02 dG03
  refine (heldWriter_any _ mr _ 1 _ (Nat.le_refl _) (writE.rd_ow Og) HM.out (by omega) (by have := HC.out; have := HCNT.out; omega)).mono ?_
  rintro e u19 ⟨rfl, b⟩
  have z20 := b.size
  replace B := B.trans (b.mono B.size)
  replace A0 := A0.of b A0.lt
  replace A1 := A1.of b A1.lt
  replace W0 := W0.of b W0.lt
  replace G0 := G0.of b G0.lt
  replace H0 := H0.of b H0.lt
  replace Ow := writE.ow_of b Ow
  replace Og := writE.ow_of b Og
  replace Oh := writE.ow_of b Oh
  clear b
  rw [show (1 : Int) + ((writM.cnt mr : Nat) : Int) = mm from by rw [HC.out, Hmm.out]]
  go_wp2
  go_ret
  exact ⟨rfl, B⟩

end Go.Proofs.YtnkhgfdlehhjmaaDoor
