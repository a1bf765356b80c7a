/-
  The law FnExactFirstOther: whatever the input, it returns true and leaves what was there as it was (written by a program of this claim's own, gen_lawwrit.py).
-/
import Derived.Test.YtjochoghmpcgdaaDoorFirstSK
import Derived.Test.YtjochoghmpcgdaaDoorPackB
import Derived.Test.YtjochoghmpcgdaaDoorEWriterK
import Derived.Test.YtjochoghmpcgdaaDoorPackA
namespace Go.Proofs.YtjochoghmpcgdaaDoor
open Go.RowKit

set_option maxHeartbeats 1000000 in
theorem lawFirstOther_any (cs0 : List Value) (r0 : Writer) (cs1 : List Value) (r1 : Writer) (N : Int) (w : World) (h0 : writE.rd w w.heap.size cs0 r0) (h1 : writE.rd w w.heap.size cs1 r1) (hN : -9223372036854775808 ≤ N ∧ N ≤ 9223372036854775807) :
    Calls Tryd.prog 4 #[.agg cs0.toArray, .agg cs1.toArray, .int .i64 N] w (Gives (.bool true) w) := by
  obtain ⟨⟨Y1, Y2⟩, hX⟩ : ∃ X, X = firstT r0 r1 N := ⟨_, rfl⟩
  have HX := Lib.hid hX.symm
  clear hX
  have R0 := Lib.hid h0
  obtain ⟨p0v2, p0v3, rfl, -, -, p0h2, p0h3⟩ := rd_WriterF h0
  obtain ⟨p0a2, p0n2, p0c2, rfl⟩ := rd_slice p0h2
  obtain ⟨p0a3, p0n3, p0c3, rfl⟩ := rd_slice p0h3
  clear p0h2 p0h3
  clear h0
  obtain ⟨t0, ht⟩ : ∃ t, t = totWriter r0 := ⟨_, rfl⟩
  have HT0 := Lib.hid ht; clear ht
  have hok0 := Lib.hid (fun h : ¬ 1048576 < t0 => ok_of_totWriter (r := r0) (by rw [← HT0.out]; exact h))
  have R1 := Lib.hid h1
  obtain ⟨p1v2, p1v3, rfl, -, -, p1h2, p1h3⟩ := rd_WriterF h1
  obtain ⟨p1a2, p1n2, p1c2, rfl⟩ := rd_slice p1h2
  obtain ⟨p1a3, p1n3, p1c3, rfl⟩ := rd_slice p1h3
  clear p1h2 p1h3
  clear h1
  obtain ⟨t1, ht⟩ : ∃ t, t = totWriter r1 := ⟨_, rfl⟩
  have HT1 := Lib.hid ht; clear ht
  have hok1 := Lib.hid (fun h : ¬ 1048576 < t1 => ok_of_totWriter (r := r1) (by rw [← HT1.out]; exact h))
  go_enter Tryd.func4, Tryd.ntmps4
  go_wp2_with fail
  generalize hW : (w.alloc _).alloc _ = w0
  obtain ⟨A0, A1, B⟩ := blk2 hW
  clear hW
  refine (szWriter_any _ r0 w.heap.size _ _ B.size (writE.rd_of B R0.out) (by omega) (by omega)).mono ?_
  rintro e w1 ⟨rfl, b⟩
  have B := B.trans (b.mono B.size)
  have A0 := A0.of b A0.lt
  have A1 := A1.of b A1.lt
  clear b
  by_cases hbig0 : (1048576 : Int) < t0
  case pos =>
    rw [lim_of_lt (by rw [← HT0.out]; omega)]
    go_wp2
    go_ret
    exact ⟨rfl, B⟩
  rw [lim_of_ge (by rw [← HT0.out]; omega), ← HT0.out]
  obtain ⟨q0, hq0⟩ : ∃ q : Int, q = 1048576 - (t0 : Int) := ⟨_, rfl⟩
  rw [← hq0]
  have hn0 : ¬ q0 < 0 := by omega
  have g0 : 0 ≤ q0 := by omega
  have g1 : q0 ≤ 1048576 - t0 := by omega
  have HQ0 := Lib.hid hq0; clear hq0
  have d0 := A1.cell 0 rfl
  have d1 := A1.cell 1 rfl
  have d2 := A1.cell 2 rfl
  have d3 := A1.cell 3 rfl
  go_wp2_with fail
  clear d0 d1 d2 d3
  refine (szWriter_any _ r1 w.heap.size _ _ B.size (writE.rd_of B R1.out) (by omega) (by omega)).mono ?_
  rintro e w2 ⟨rfl, b⟩
  have B := B.trans (b.mono B.size)
  have A0 := A0.of b A0.lt
  have A1 := A1.of b A1.lt
  clear b
  by_cases hbig1 : q0 < t1
  case pos =>
    rw [lim_of_lt (by rw [← HT1.out]; omega)]
    go_wp2
    go_ret
    exact ⟨rfl, B⟩
  rw [lim_of_ge (by rw [← HT1.out]; omega), ← HT1.out]
  obtain ⟨q1, hq1⟩ : ∃ q : Int, q = q0 - (t1 : Int) := ⟨_, rfl⟩
  rw [← hq1]
  have hn1 : ¬ q1 < 0 := by omega
  have g0 : 0 ≤ q1 := by omega
  have g1 : q1 ≤ 1048576 - t0 := by omega
  have HQ1 := Lib.hid hq1; clear hq1
  go_wp2_with fail
  have hok0 := Lib.hid (hok0.out (by have := HQ0.out; have := HQ1.out; omega))
  have hok1 := Lib.hid (hok1.out (by have := HQ0.out; have := HQ1.out; omega))
  clear hn0 hbig0 hn1 hbig1
  have S := B.size
  -- the reference
  have HA0 := Lib.hid A0; have la0 := A0.lt; clear A0
  have HA1 := Lib.hid A1; have la1 := A1.lt; clear A1
  have HB := Lib.hid B; have hb := B.size; clear B
  have d00 := HA0.out.cell 0 rfl
  have d01 := HA0.out.cell 1 rfl
  have d02 := HA0.out.cell 2 rfl
  have d03 := HA0.out.cell 3 rfl
  have d10 := HA1.out.cell 0 rfl
  have d11 := HA1.out.cell 1 rfl
  have d12 := HA1.out.cell 2 rfl
  have d13 := HA1.out.cell 3 rfl
  go_region_held3 (fun w' => w'.cell? ⟨w.heap.size, 0, none⟩ = some (.int .i64 r0.turner.letters) ∧ w'.cell? ⟨w.heap.size, 1, none⟩ = some (.int .i64 r0.turner.start) ∧ w'.cell? ⟨w.heap.size, 2, none⟩ = some (.slice p0a2 p0n2 p0c2) ∧ w'.cell? ⟨w.heap.size, 3, none⟩ = some (.slice p0a3 p0n3 p0c3) ∧ w'.cell? ⟨w.heap.size + 1, 0, none⟩ = some (.int .i64 r1.turner.letters) ∧ w'.cell? ⟨w.heap.size + 1, 1, none⟩ = some (.int .i64 r1.turner.start) ∧ w'.cell? ⟨w.heap.size + 1, 2, none⟩ = some (.slice p1a2 p1n2 p1c2) ∧ w'.cell? ⟨w.heap.size + 1, 3, none⟩ = some (.slice p1a3 p1n3 p1c3))
    (first
      | go_keep
      | (have A0 := HA0.out.of c0 la0
         have A1 := HA1.out.of c0 la1
         exact ⟨A0.cell 0 rfl, A0.cell 1 rfl, A0.cell 2 rfl, A0.cell 3 rfl, A1.cell 0 rfl, A1.cell 1 rfl, A1.cell 2 rfl, A1.cell 3 rfl⟩)
      | (have A0 := HA0.out.of c1 la0
         have A1 := HA1.out.of c1 la1
         exact ⟨A0.cell 0 rfl, A0.cell 1 rfl, A0.cell 2 rfl, A0.cell 3 rfl, A1.cell 0 rfl, A1.cell 1 rfl, A1.cell 2 rfl, A1.cell 3 rfl⟩)
      | (have A0 := HA0.out.of c2 la0
         have A1 := HA1.out.of c2 la1
         exact ⟨A0.cell 0 rfl, A0.cell 1 rfl, A0.cell 2 rfl, A0.cell 3 rfl, A1.cell 0 rfl, A1.cell 1 rfl, A1.cell 2 rfl, A1.cell 3 rfl⟩))
    (first
      | (go_at_call 15
         refine (toWriter_any _ r0 w.heap.size _ (by exact hb) (by exact writE.rd_of HB.out.drew R0.out) hok0.out).mono ?_
         rintro e v0 ⟨x0, f0, rfl, o0, -, -, b0⟩
         have c0 : Below w2.heap.size w2 v0 := (Below.refl _ w2).drew.trans b0
         have O09 := Lib.hid (writE.rd_ow o0)
         have o' := writE.rd_ow o0
         obtain ⟨t0v2, t0v3, rfl, -, -, t0h2, t0h3⟩ := rd_WriterF o'
         obtain ⟨t0a2, t0n2, t0c2, rfl⟩ := rd_slice t0h2
         obtain ⟨t0a3, t0n3, t0c3, rfl⟩ := rd_slice t0h3
         clear t0h2 t0h3
         clear o0 o')
      | (go_at_call 15
         refine (toWriter_any _ r1 w.heap.size _ (Nat.le_trans hb c0.size) (by exact writE.rd_of (HB.out.trans (c0.mono hb)) R1.out) hok1.out).mono ?_
         rintro e v1 ⟨x1, f1, rfl, o1, -, -, b1⟩
         have c1 : Below w2.heap.size w2 v1 := c0.trans (b1.mono c0.size)
         have O19 := Lib.hid (writE.rd_ow o1)
         have o' := writE.rd_ow o1
         have O09 := Lib.hid (writE.rd_of (b1.mono (Nat.le_refl _)) O09.out)
         have S09 := b1.size
         obtain ⟨t1v2, t1v3, rfl, -, -, t1h2, t1h3⟩ := rd_WriterF o'
         obtain ⟨t1a2, t1n2, t1c2, rfl⟩ := rd_slice t1h2
         obtain ⟨t1a3, t1n3, t1c3, rfl⟩ := rd_slice t1h3
         clear t1h2 t1h3
         clear o1 o')
      | (go_at_call 14
         refine (specFirst_any r0 r1 N _ _ _ _ _ S09 (Nat.le_refl _) O09.out O19.out (Y1, Y2) HX.out).mono ?_
         rintro e v2 ⟨rfl, b2⟩
         dsimp only
         have c2 : Below w2.heap.size w2 v2 := c1.trans (b2.mono c1.size)))
  have B := HB.out.trans (c2.mono hb)
  have A0 := HA0.out.of c2 la0
  have A1 := HA1.out.of c2 la1
  clear HB hb HA0 la0 HA1 la1 d00 d01 d02 d03 d10 d11 d12 d13 b0 b1 b2 c0 c1 c2
  -- the program
  have d0 := A0.cell 0 rfl
  have d1 := A0.cell 1 rfl
  have d2 := A0.cell 2 rfl
  have d3 := A0.cell 3 rfl
  go_wp2_with fail
  clear d0 d1 d2 d3
  refine (toWriter_any _ r0 w.heap.size _ B.size (writE.rd_of B R0.out) hok0.out).mono ?_
  rintro e w10 ⟨x0, f0, rfl, o0, -, -, b⟩
  have B := B.trans (b.mono B.size)
  have A0 := A0.of b A0.lt
  have A1 := A1.of b A1.lt
  have O0 := Lib.hid (writE.rd_ow o0)
  have o' := writE.rd_ow o0
  obtain ⟨s0v2, s0v3, rfl, -, -, s0h2, s0h3⟩ := rd_WriterF o'
  obtain ⟨s0a2, s0n2, s0c2, rfl⟩ := rd_slice s0h2
  obtain ⟨s0a3, s0n3, s0c3, rfl⟩ := rd_slice s0h3
  clear s0h2 s0h3
  clear o0 o' b
  have d0 := fun o => (A1.alloc o).cell 0 rfl
  have d1 := fun o => (A1.alloc o).cell 1 rfl
  have d2 := fun o => (A1.alloc o).cell 2 rfl
  have d3 := fun o => (A1.alloc o).cell 3 rfl
  go_wp2_with fail
  clear d0 d1 d2 d3
  generalize hW : w10.alloc _ = y0
  obtain ⟨X0, b⟩ := blk1 hW
  clear hW
  have B := B.trans (b.mono B.size)
  have A0 := A0.of b A0.lt
  have A1 := A1.of b A1.lt
  have O0 := Lib.hid (writE.rd_of b O0.out)
  have S0 := b.size
  clear b
  refine (toWriter_any _ r1 w.heap.size _ B.size (writE.rd_of B R1.out) hok1.out).mono ?_
  rintro e w11 ⟨x1, f1, rfl, o1, -, -, b⟩
  have B := B.trans (b.mono B.size)
  have A0 := A0.of b A0.lt
  have A1 := A1.of b A1.lt
  have X0 := X0.of b X0.lt
  have O0 := Lib.hid (writE.rd_of (b.mono S0) O0.out)
  have S0 := Nat.le_trans S0 b.size
  have O1 := Lib.hid (writE.rd_ow o1)
  have o' := writE.rd_ow o1
  obtain ⟨s1v2, s1v3, rfl, -, -, s1h2, s1h3⟩ := rd_WriterF o'
  obtain ⟨s1a2, s1n2, s1c2, rfl⟩ := rd_slice s1h2
  obtain ⟨s1a3, s1n3, s1c3, rfl⟩ := rd_slice s1h3
  clear s1h2 s1h3
  clear o1 o' b
  have e00 := fun o => (X0.alloc o).cell 0 rfl
  have e01 := fun o => (X0.alloc o).cell 1 rfl
  have e02 := fun o => (X0.alloc o).cell 2 rfl
  have e03 := fun o => (X0.alloc o).cell 3 rfl
  go_wp2_with fail
  clear e00 e01 e02 e03
  generalize hW : w11.alloc _ = y1
  obtain ⟨X1, b⟩ := blk1 hW
  clear hW
  have B := B.trans (b.mono B.size)
  have A0 := A0.of b A0.lt
  have A1 := A1.of b A1.lt
  have O1 := Lib.hid (writE.rd_of b O1.out)
  have S1 := b.size
  have X0 := X0.of b X0.lt
  have O0 := Lib.hid (writE.rd_of (b.mono S0) O0.out)
  have S0 := Nat.le_trans S0 b.size
  clear b
  refine (firstOther_any2 r0 r1 N _ _ _ _ _ S0 S1 O0.out O1.out (Y1, Y2) HX.out).mono ?_
  rintro e z ⟨rfl, b⟩
  dsimp only
  have B := B.trans (b.mono B.size)
  have A0 := A0.of b A0.lt
  have A1 := A1.of b A1.lt
  have X0 := X0.of b X0.lt
  have O0 := Lib.hid (writE.rd_of (b.mono S0) O0.out)
  have S0 := Nat.le_trans S0 b.size
  have X1 := X1.of b X1.lt
  have O1 := Lib.hid (writE.rd_of (b.mono S1) O1.out)
  have S1 := Nat.le_trans S1 b.size
  clear b
  go_wp2_with fail
  have HA0 := Lib.hid A0; have la0 := A0.lt; clear A0
  have HA1 := Lib.hid A1; have la1 := A1.lt; clear A1
  have HX0 := Lib.hid X0; have lx0 := X0.lt; clear X0
  have HX1 := Lib.hid X1; have lx1 := X1.lt; clear X1
  have HB := Lib.hid B; have hb := B.size; clear B
  have d00 := HA0.out.cell 0 rfl
  have d01 := HA0.out.cell 1 rfl
  have d02 := HA0.out.cell 2 rfl
  have d03 := HA0.out.cell 3 rfl
  have e00 := HX0.out.cell 0 rfl
  have e01 := HX0.out.cell 1 rfl
  have e02 := HX0.out.cell 2 rfl
  have e03 := HX0.out.cell 3 rfl
  go_region_held3 (fun w' => w'.cell? ⟨w.heap.size, 0, none⟩ = some (.int .i64 r0.turner.letters) ∧ w'.cell? ⟨w.heap.size, 1, none⟩ = some (.int .i64 r0.turner.start) ∧ w'.cell? ⟨w.heap.size, 2, none⟩ = some (.slice p0a2 p0n2 p0c2) ∧ w'.cell? ⟨w.heap.size, 3, none⟩ = some (.slice p0a3 p0n3 p0c3) ∧ w'.cell? ⟨w10.heap.size, 0, none⟩ = some (.int .i64 r0.turner.letters) ∧ w'.cell? ⟨w10.heap.size, 1, none⟩ = some (.int .i64 r0.turner.start) ∧ w'.cell? ⟨w10.heap.size, 2, none⟩ = some (.slice s0a2 s0n2 s0c2) ∧ w'.cell? ⟨w10.heap.size, 3, none⟩ = some (.slice s0a3 s0n3 s0c3))
    (first
      | go_keep
      | (have A0 := HA0.out.of c0 la0
         have X0 := HX0.out.of c0 lx0
         exact ⟨A0.cell 0 rfl, A0.cell 1 rfl, A0.cell 2 rfl, A0.cell 3 rfl, X0.cell 0 rfl, X0.cell 1 rfl, X0.cell 2 rfl, X0.cell 3 rfl⟩)
      | (have A0 := HA0.out.of c1 la0
         have X0 := HX0.out.of c1 lx0
         exact ⟨A0.cell 0 rfl, A0.cell 1 rfl, A0.cell 2 rfl, A0.cell 3 rfl, X0.cell 0 rfl, X0.cell 1 rfl, X0.cell 2 rfl, X0.cell 3 rfl⟩))
    (first
      | (go_at_call 15
         refine (toWriter_any _ r0 w.heap.size _ (by exact hb) (by exact writE.rd_of HB.out.drew R0.out) hok0.out).mono ?_
         rintro e z00 ⟨x0, f0, rfl, o0, -, -, b0⟩
         have c0 : Below z.heap.size z z00 := (Below.refl _ z).drew.trans b0
         have O09 := Lib.hid (writE.rd_ow o0)
         have o' := writE.rd_ow o0
         obtain ⟨t0v2, t0v3, rfl, -, -, t0h2, t0h3⟩ := rd_WriterF o'
         obtain ⟨t0a2, t0n2, t0c2, rfl⟩ := rd_slice t0h2
         obtain ⟨t0a3, t0n3, t0c3, rfl⟩ := rd_slice t0h3
         clear t0h2 t0h3
         clear o0 o')
      | (go_at_call 16
         refine (eqWriter_is true _ _ r0 r0 _ _ _ (Nat.le_trans S0 c0.size) (Nat.le_refl _) (writE.rd_of (c0.mono S0) O0.out) O09.out (decide_eq_true rfl)).mono ?_
         rintro e z01 ⟨rfl, b1⟩
         have c1 : Below z.heap.size z z01 := c0.trans (b1.mono c0.size)))
  have B := HB.out.trans (c1.mono hb)
  have A0 := HA0.out.of c1 la0
  have A1 := HA1.out.of c1 la1
  have X0 := HX0.out.of c1 lx0
  have O0 := Lib.hid (writE.rd_of (c1.mono S0) O0.out)
  have S0 := Nat.le_trans S0 c1.size
  have X1 := HX1.out.of c1 lx1
  have O1 := Lib.hid (writE.rd_of (c1.mono S1) O1.out)
  have S1 := Nat.le_trans S1 c1.size
  clear HB hb HA0 la0 HA1 la1 HX0 lx0 HX1 lx1 d00 d01 d02 d03 e00 e01 e02 e03 b0 b1 c0 c1
  go_wp2_with fail
  have HA0 := Lib.hid A0; have la0 := A0.lt; clear A0
  have HA1 := Lib.hid A1; have la1 := A1.lt; clear A1
  have HX0 := Lib.hid X0; have lx0 := X0.lt; clear X0
  have HX1 := Lib.hid X1; have lx1 := X1.lt; clear X1
  have HB := Lib.hid B; have hb := B.size; clear B
  have d10 := HA1.out.cell 0 rfl
  have d11 := HA1.out.cell 1 rfl
  have d12 := HA1.out.cell 2 rfl
  have d13 := HA1.out.cell 3 rfl
  have e10 := HX1.out.cell 0 rfl
  have e11 := HX1.out.cell 1 rfl
  have e12 := HX1.out.cell 2 rfl
  have e13 := HX1.out.cell 3 rfl
  go_region_held3 (fun w' => w'.cell? ⟨w.heap.size + 1, 0, none⟩ = some (.int .i64 r1.turner.letters) ∧ w'.cell? ⟨w.heap.size + 1, 1, none⟩ = some (.int .i64 r1.turner.start) ∧ w'.cell? ⟨w.heap.size + 1, 2, none⟩ = some (.slice p1a2 p1n2 p1c2) ∧ w'.cell? ⟨w.heap.size + 1, 3, none⟩ = some (.slice p1a3 p1n3 p1c3) ∧ w'.cell? ⟨w11.heap.size, 0, none⟩ = some (.int .i64 r1.turner.letters) ∧ w'.cell? ⟨w11.heap.size, 1, none⟩ = some (.int .i64 r1.turner.start) ∧ w'.cell? ⟨w11.heap.size, 2, none⟩ = some (.slice s1a2 s1n2 s1c2) ∧ w'.cell? ⟨w11.heap.size, 3, none⟩ = some (.slice s1a3 s1n3 s1c3))
    (first
      | go_keep
      | (have A1 := HA1.out.of c0 la1
         have X1 := HX1.out.of c0 lx1
         exact ⟨A1.cell 0 rfl, A1.cell 1 rfl, A1.cell 2 rfl, A1.cell 3 rfl, X1.cell 0 rfl, X1.cell 1 rfl, X1.cell 2 rfl, X1.cell 3 rfl⟩)
      | (have A1 := HA1.out.of c1 la1
         have X1 := HX1.out.of c1 lx1
         exact ⟨A1.cell 0 rfl, A1.cell 1 rfl, A1.cell 2 rfl, A1.cell 3 rfl, X1.cell 0 rfl, X1.cell 1 rfl, X1.cell 2 rfl, X1.cell 3 rfl⟩))
    (first
      | (go_at_call 15
         refine (toWriter_any _ r1 w.heap.size _ (by exact hb) (by exact writE.rd_of HB.out.drew R1.out) hok1.out).mono ?_
         rintro e z10 ⟨x0, f0, rfl, o0, -, -, b0⟩
         have c0 : Below z01.heap.size z01 z10 := (Below.refl _ z01).drew.trans b0
         have O19 := Lib.hid (writE.rd_ow o0)
         have o' := writE.rd_ow o0
         obtain ⟨t0v2, t0v3, rfl, -, -, t0h2, t0h3⟩ := rd_WriterF o'
         obtain ⟨t0a2, t0n2, t0c2, rfl⟩ := rd_slice t0h2
         obtain ⟨t0a3, t0n3, t0c3, rfl⟩ := rd_slice t0h3
         clear t0h2 t0h3
         clear o0 o')
      | (go_at_call 16
         refine (eqWriter_is true _ _ r1 r1 _ _ _ (Nat.le_trans S1 c0.size) (Nat.le_refl _) (writE.rd_of (c0.mono S1) O1.out) O19.out (decide_eq_true rfl)).mono ?_
         rintro e z11 ⟨rfl, b1⟩
         have c1 : Below z01.heap.size z01 z11 := c0.trans (b1.mono c0.size)))
  have B := HB.out.trans (c1.mono hb)
  have A0 := HA0.out.of c1 la0
  have A1 := HA1.out.of c1 la1
  have X0 := HX0.out.of c1 lx0
  have O0 := Lib.hid (writE.rd_of (c1.mono S0) O0.out)
  have S0 := Nat.le_trans S0 c1.size
  have X1 := HX1.out.of c1 lx1
  have O1 := Lib.hid (writE.rd_of (c1.mono S1) O1.out)
  have S1 := Nat.le_trans S1 c1.size
  clear HB hb HA0 la0 HA1 la1 HX0 lx0 HX1 lx1 d10 d11 d12 d13 e10 e11 e12 e13 b0 b1 c0 c1
  go_wp2
  go_ret
  exact ⟨rfl, B⟩

end Go.Proofs.YtjochoghmpcgdaaDoor
