/-
  The law FnExactLongestWritten: whatever the input, it returns true and leaves what was there as it was (written by a program of this claim's own, gen_lawwrit.py).
-/
import Derived.Test.YtjochoghmpcgdaaDoorLongSK
import Derived.Test.YtjochoghmpcgdaaDoorPackB
import Derived.Test.YtjochoghmpcgdaaDoorEWriterK
import Derived.Test.YtjochoghmpcgdaaDoorPackA
namespace Go.Proofs.YtjochoghmpcgdaaDoor
open Go.RowKit

set_option maxHeartbeats 1000000 in
theorem lawLongestWritten_any (cs0 : List Value) (r0 : Writer) (N : Int) (w : World) (h0 : writE.rd w w.heap.size cs0 r0) (hN : -9223372036854775808 ≤ N ∧ N ≤ 9223372036854775807) :
    Calls Tryd.prog 5 #[.agg cs0.toArray, .int .i64 N] w (Gives (.bool true) w) := by
  obtain ⟨⟨⟨X1, X2⟩, X3⟩, hX⟩ : ∃ X, X = longT r0 N := ⟨_, rfl⟩
  have HX := Lib.hid hX.symm
  clear hX
  have R0 := Lib.hid h0
  obtain ⟨p0v2, p0v3, rfl, -, -, p0h2, p0h3⟩ := rd_WriterF h0
  obtain ⟨p0a2, p0n2, p0c2, rfl⟩ := rd_slice p0h2
  obtain ⟨p0a3, p0n3, p0c3, rfl⟩ := rd_slice p0h3
  clear p0h2 p0h3
  clear h0
  obtain ⟨t0, ht⟩ : ∃ t, t = totWriter r0 := ⟨_, rfl⟩
  have HT0 := Lib.hid ht; clear ht
  have hok0 := Lib.hid (fun h : ¬ 1048576 < t0 => ok_of_totWriter (r := r0) (by rw [← HT0.out]; exact h))
  go_enter Tryd.func5, Tryd.ntmps5
  go_wp2_with fail
  generalize hW : w.alloc _ = w0
  obtain ⟨A0, B⟩ := blk1 hW
  clear hW
  refine (szWriter_any _ r0 w.heap.size _ _ B.size (writE.rd_of B R0.out) (by omega) (by omega)).mono ?_
  rintro e w1 ⟨rfl, b⟩
  have B := B.trans (b.mono B.size)
  have A0 := A0.of b A0.lt
  clear b
  by_cases hbig0 : (1048576 : Int) < t0
  case pos =>
    rw [lim_of_lt (by rw [← HT0.out]; omega)]
    go_wp2
    go_ret
    exact ⟨rfl, B⟩
  rw [lim_of_ge (by rw [← HT0.out]; omega), ← HT0.out]
  obtain ⟨q0, hq0⟩ : ∃ q : Int, q = 1048576 - (t0 : Int) := ⟨_, rfl⟩
  rw [← hq0]
  have hn0 : ¬ q0 < 0 := by omega
  have g0 : 0 ≤ q0 := by omega
  have g1 : q0 ≤ 1048576 - t0 := by omega
  have HQ0 := Lib.hid hq0; clear hq0
  have d0 := A0.cell 0 rfl
  have d1 := A0.cell 1 rfl
  have d2 := A0.cell 2 rfl
  have d3 := A0.cell 3 rfl
  go_wp2_with fail
  clear d0 d1 d2 d3
  have hok0 := Lib.hid (hok0.out (by have := HQ0.out; omega))
  clear hn0 hbig0
  have S := B.size
  -- the reference
  refine (toWriter_any _ r0 w.heap.size _ B.size (writE.rd_of B R0.out) hok0.out).mono ?_
  rintro e w2 ⟨x2, f2, rfl, o2, -, -, b⟩
  have B := B.trans (b.mono B.size)
  have A0 := A0.of b A0.lt
  have O := Lib.hid (writE.rd_ow o2)
  have o2' := writE.rd_ow o2
  obtain ⟨uv2, uv3, rfl, -, -, uh2, uh3⟩ := rd_WriterF o2'
  obtain ⟨ua2, un2, uc2, rfl⟩ := rd_slice uh2
  obtain ⟨ua3, un3, uc3, rfl⟩ := rd_slice uh3
  clear uh2 uh3
  clear o2 o2' b
  go_wp2_with fail
  refine (specLongest_any r0 N _ _ _ (Nat.le_refl _) O.out ((X1, X2), X3) HX.out).mono ?_
  rintro e w3 ⟨rfl, b⟩
  dsimp only
  have B := B.trans (b.mono B.size)
  have A0 := A0.of b A0.lt
  clear b O
  -- the program
  have d0 := A0.cell 0 rfl
  have d1 := A0.cell 1 rfl
  have d2 := A0.cell 2 rfl
  have d3 := A0.cell 3 rfl
  go_wp2_with fail
  clear d0 d1 d2 d3
  refine (toWriter_any _ r0 w.heap.size _ B.size (writE.rd_of B R0.out) hok0.out).mono ?_
  rintro e w10 ⟨x0, f0, rfl, o0, -, -, b⟩
  have B := B.trans (b.mono B.size)
  have A0 := A0.of b A0.lt
  have O0 := Lib.hid (writE.rd_ow o0)
  have o' := writE.rd_ow o0
  obtain ⟨s0v2, s0v3, rfl, -, -, s0h2, s0h3⟩ := rd_WriterF o'
  obtain ⟨s0a2, s0n2, s0c2, rfl⟩ := rd_slice s0h2
  obtain ⟨s0a3, s0n3, s0c3, rfl⟩ := rd_slice s0h3
  clear s0h2 s0h3
  clear o0 o' b
  go_wp2_with fail
  generalize hW : w10.alloc _ = y0
  obtain ⟨X0, b⟩ := blk1 hW
  clear hW
  have B := B.trans (b.mono B.size)
  have A0 := A0.of b A0.lt
  have O0 := Lib.hid (writE.rd_of b O0.out)
  have S0 := b.size
  clear b
  refine (longest_any r0 N _ _ _ S0 O0.out ((X1, X2), X3) HX.out).mono ?_
  rintro e z ⟨rfl, b⟩
  dsimp only
  have B := B.trans (b.mono B.size)
  have A0 := A0.of b A0.lt
  have X0 := X0.of b X0.lt
  have O0 := Lib.hid (writE.rd_of (b.mono S0) O0.out)
  have S0 := Nat.le_trans S0 b.size
  clear b
  go_wp2_with fail
  have HA0 := Lib.hid A0; have la0 := A0.lt; clear A0
  have HX0 := Lib.hid X0; have lx0 := X0.lt; clear X0
  have HB := Lib.hid B; have hb := B.size; clear B
  have d00 := HA0.out.cell 0 rfl
  have d01 := HA0.out.cell 1 rfl
  have d02 := HA0.out.cell 2 rfl
  have d03 := HA0.out.cell 3 rfl
  have e00 := HX0.out.cell 0 rfl
  have e01 := HX0.out.cell 1 rfl
  have e02 := HX0.out.cell 2 rfl
  have e03 := HX0.out.cell 3 rfl
  go_region_held3 (fun w' => w'.cell? ⟨w.heap.size, 0, none⟩ = some (.int .i64 r0.turner.letters) ∧ w'.cell? ⟨w.heap.size, 1, none⟩ = some (.int .i64 r0.turner.start) ∧ w'.cell? ⟨w.heap.size, 2, none⟩ = some (.slice p0a2 p0n2 p0c2) ∧ w'.cell? ⟨w.heap.size, 3, none⟩ = some (.slice p0a3 p0n3 p0c3) ∧ w'.cell? ⟨w10.heap.size, 0, none⟩ = some (.int .i64 r0.turner.letters) ∧ w'.cell? ⟨w10.heap.size, 1, none⟩ = some (.int .i64 r0.turner.start) ∧ w'.cell? ⟨w10.heap.size, 2, none⟩ = some (.slice s0a2 s0n2 s0c2) ∧ w'.cell? ⟨w10.heap.size, 3, none⟩ = some (.slice s0a3 s0n3 s0c3))
    (first
      | go_keep
      | (have A0 := HA0.out.of c0 la0
         have X0 := HX0.out.of c0 lx0
         exact ⟨A0.cell 0 rfl, A0.cell 1 rfl, A0.cell 2 rfl, A0.cell 3 rfl, X0.cell 0 rfl, X0.cell 1 rfl, X0.cell 2 rfl, X0.cell 3 rfl⟩)
      | (have A0 := HA0.out.of c1 la0
         have X0 := HX0.out.of c1 lx0
         exact ⟨A0.cell 0 rfl, A0.cell 1 rfl, A0.cell 2 rfl, A0.cell 3 rfl, X0.cell 0 rfl, X0.cell 1 rfl, X0.cell 2 rfl, X0.cell 3 rfl⟩))
    (first
      | (go_at_call 15
         refine (toWriter_any _ r0 w.heap.size _ (by exact hb) (by exact writE.rd_of HB.out.drew R0.out) hok0.out).mono ?_
         rintro e z00 ⟨x0, f0, rfl, o0, -, -, b0⟩
         have c0 : Below z.heap.size z z00 := (Below.refl _ z).drew.trans b0
         have O09 := Lib.hid (writE.rd_ow o0)
         have o' := writE.rd_ow o0
         obtain ⟨t0v2, t0v3, rfl, -, -, t0h2, t0h3⟩ := rd_WriterF o'
         obtain ⟨t0a2, t0n2, t0c2, rfl⟩ := rd_slice t0h2
         obtain ⟨t0a3, t0n3, t0c3, rfl⟩ := rd_slice t0h3
         clear t0h2 t0h3
         clear o0 o')
      | (go_at_call 16
         refine (eqWriter_is true _ _ r0 r0 _ _ _ (Nat.le_trans S0 c0.size) (Nat.le_refl _) (writE.rd_of (c0.mono S0) O0.out) O09.out (decide_eq_true rfl)).mono ?_
         rintro e z01 ⟨rfl, b1⟩
         have c1 : Below z.heap.size z z01 := c0.trans (b1.mono c0.size)))
  have B := HB.out.trans (c1.mono hb)
  have A0 := HA0.out.of c1 la0
  have X0 := HX0.out.of c1 lx0
  have O0 := Lib.hid (writE.rd_of (c1.mono S0) O0.out)
  have S0 := Nat.le_trans S0 c1.size
  clear HB hb HA0 la0 HX0 lx0 d00 d01 d02 d03 e00 e01 e02 e03 b0 b1 c0 c1
  go_wp2
  go_ret
  exact ⟨rfl, B⟩

end Go.Proofs.YtjochoghmpcgdaaDoor
