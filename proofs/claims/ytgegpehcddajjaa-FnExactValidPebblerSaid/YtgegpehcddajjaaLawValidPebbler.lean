/-
  The law FnExactValidPebbler: whatever the input, it returns true and leaves what was there as it was (written by a program of this claim's own, gen_law.py).
-/
import Derived.Test.YtgegpehcddajjaaSpecPeb
import Derived.Test.YtgegpehcddajjaaTPebbler
import Derived.Test.YtgegpehcddajjaaEPebbler
import Derived.Test.YtgegpehcddajjaaOver
namespace Go.Proofs.Ytgegpehcddajjaa
open Go.RowKit

set_option maxHeartbeats 1000000 in
theorem lawValidPebbler_any (cs0 : List Value) (r0 : Pebbler) (w : World) (h0 : pebE.rd w w.heap.size cs0 r0) :
    Calls Try.prog 4 #[.agg cs0.toArray] w (Gives (.bool true) w) := by
  have R0 := Lib.hid h0
  obtain ⟨p0v2, rfl, -, -, p0h2⟩ := rd_Pebbler h0
  obtain ⟨p0a2, p0n2, p0c2, rfl⟩ := rd_slice p0h2
  clear p0h2
  clear h0
  obtain ⟨t0, ht⟩ : ∃ t, t = totPebbler r0 := ⟨_, rfl⟩
  have HT0 := Lib.hid ht; clear ht
  have hok0 := Lib.hid (fun h : ¬ 1048576 < t0 => ok_of_totPebbler (r := r0) (by rw [← HT0.out]; exact h))
  go_enter Try.func4, Try.ntmps4
  go_wp2_with fail
  generalize hW : w.alloc _ = w0
  obtain ⟨A0, B⟩ := blk1 hW
  clear hW
  refine (szPebbler_any _ r0 w.heap.size _ _ B.size (pebE.rd_of B R0.out) (by omega) (by omega)).mono ?_
  rintro e w1 ⟨rfl, b⟩
  have B := B.trans (b.mono B.size)
  have A0 := A0.of b A0.lt
  clear b
  by_cases hbig0 : (1048576 : Int) < t0
  case pos =>
    rw [lim_of_lt (by rw [← HT0.out]; omega)]
    go_wp2
    go_ret
    exact ⟨rfl, B⟩
  rw [lim_of_ge (by rw [← HT0.out]; omega), ← HT0.out]
  obtain ⟨q0, hq0⟩ : ∃ q : Int, q = 1048576 - (t0 : Int) := ⟨_, rfl⟩
  rw [← hq0]
  have hn0 : ¬ q0 < 0 := by omega
  have g0 : 0 ≤ q0 := by omega
  have g1 : q0 ≤ 1048576 - t0 := by omega
  have HQ0 := Lib.hid hq0; clear hq0
  have d0 := A0.cell 0 rfl
  have d1 := A0.cell 1 rfl
  have d2 := A0.cell 2 rfl
  go_wp2_with fail
  clear d0 d1 d2
  have hok0 := Lib.hid (hok0.out (by have := HQ0.out; omega))
  clear hn0 hbig0
  have S := B.size
  -- the reference
  refine (toPebbler_any _ r0 w.heap.size _ B.size (pebE.rd_of B R0.out) hok0.out).mono ?_
  rintro e w2 ⟨x2, f2, rfl, o2, -, -, b⟩
  have B := B.trans (b.mono B.size)
  have A0 := A0.of b A0.lt
  have O := Lib.hid (pebE.rd_ow o2)
  have o2' := pebE.rd_ow o2
  obtain ⟨uv2, rfl, -, -, uh2⟩ := rd_Pebbler o2'
  obtain ⟨ua2, un2, uc2, rfl⟩ := rd_slice uh2
  clear uh2
  clear o2 o2' b
  go_wp2_with fail
  refine (specValidPeb_any _ r0 _ _ (Nat.le_refl _) O.out).mono ?_
  rintro e w3 ⟨rfl, b⟩
  have B := B.trans (b.mono B.size)
  have A0 := A0.of b A0.lt
  clear b O
  -- the program
  have d0 := A0.cell 0 rfl
  have d1 := A0.cell 1 rfl
  have d2 := A0.cell 2 rfl
  go_wp2_with fail
  clear d0 d1 d2
  refine (toPebbler_any _ r0 w.heap.size _ B.size (pebE.rd_of B R0.out) hok0.out).mono ?_
  rintro e w10 ⟨x0, f0, rfl, o0, -, -, b⟩
  have B := B.trans (b.mono B.size)
  have A0 := A0.of b A0.lt
  have O0 := Lib.hid (pebE.rd_ow o0)
  have o' := pebE.rd_ow o0
  obtain ⟨s0v2, rfl, -, -, s0h2⟩ := rd_Pebbler o'
  obtain ⟨s0a2, s0n2, s0c2, rfl⟩ := rd_slice s0h2
  clear s0h2
  clear o0 o' b
  go_wp2_with fail
  generalize hW : w10.alloc _ = y0
  obtain ⟨X0, b⟩ := blk1 hW
  clear hW
  have B := B.trans (b.mono B.size)
  have A0 := A0.of b A0.lt
  have O0 := Lib.hid (pebE.rd_of b O0.out)
  have S0 := b.size
  clear b
  refine (validPeb_any _ r0 _ _ S0 O0.out).mono ?_
  rintro e z ⟨rfl, b⟩
  have B := B.trans (b.mono B.size)
  have A0 := A0.of b A0.lt
  have X0 := X0.of b X0.lt
  have O0 := Lib.hid (pebE.rd_of (b.mono S0) O0.out)
  have S0 := Nat.le_trans S0 b.size
  clear b
  go_wp2_with fail
  have HA0 := Lib.hid A0; have la0 := A0.lt; clear A0
  have HX0 := Lib.hid X0; have lx0 := X0.lt; clear X0
  have HB := Lib.hid B; have hb := B.size; clear B
  have d00 := HA0.out.cell 0 rfl
  have d01 := HA0.out.cell 1 rfl
  have d02 := HA0.out.cell 2 rfl
  have e00 := HX0.out.cell 0 rfl
  have e01 := HX0.out.cell 1 rfl
  have e02 := HX0.out.cell 2 rfl
  go_region_held3 (fun w' => w'.cell? ⟨w.heap.size, 0, none⟩ = some (.int .i64 r0.letters) ∧ w'.cell? ⟨w.heap.size, 1, none⟩ = some (.int .i64 r0.start) ∧ w'.cell? ⟨w.heap.size, 2, none⟩ = some (.slice p0a2 p0n2 p0c2) ∧ w'.cell? ⟨w10.heap.size, 0, none⟩ = some (.int .i64 r0.letters) ∧ w'.cell? ⟨w10.heap.size, 1, none⟩ = some (.int .i64 r0.start) ∧ w'.cell? ⟨w10.heap.size, 2, none⟩ = some (.slice s0a2 s0n2 s0c2))
    (first
      | go_keep
      | (have A0 := HA0.out.of c0 la0
         have X0 := HX0.out.of c0 lx0
         exact ⟨A0.cell 0 rfl, A0.cell 1 rfl, A0.cell 2 rfl, X0.cell 0 rfl, X0.cell 1 rfl, X0.cell 2 rfl⟩)
      | (have A0 := HA0.out.of c1 la0
         have X0 := HX0.out.of c1 lx0
         exact ⟨A0.cell 0 rfl, A0.cell 1 rfl, A0.cell 2 rfl, X0.cell 0 rfl, X0.cell 1 rfl, X0.cell 2 rfl⟩))
    (first
      | (go_at_call 8
         refine (toPebbler_any _ r0 w.heap.size _ (by exact hb) (by exact pebE.rd_of HB.out.drew R0.out) hok0.out).mono ?_
         rintro e z00 ⟨x0, f0, rfl, o0, -, -, b0⟩
         have c0 : Below z.heap.size z z00 := (Below.refl _ z).drew.trans b0
         have O09 := Lib.hid (pebE.rd_ow o0)
         have o' := pebE.rd_ow o0
         obtain ⟨t0v2, rfl, -, -, t0h2⟩ := rd_Pebbler o'
         obtain ⟨t0a2, t0n2, t0c2, rfl⟩ := rd_slice t0h2
         clear t0h2
         clear o0 o')
      | (go_at_call 10
         refine (eqPebbler_is true _ _ r0 r0 _ _ _ (Nat.le_trans S0 c0.size) (Nat.le_refl _) (pebE.rd_of (c0.mono S0) O0.out) O09.out (decide_eq_true rfl)).mono ?_
         rintro e z01 ⟨rfl, b1⟩
         have c1 : Below z.heap.size z z01 := c0.trans (b1.mono c0.size)))
  have B := HB.out.trans (c1.mono hb)
  have A0 := HA0.out.of c1 la0
  have X0 := HX0.out.of c1 lx0
  have O0 := Lib.hid (pebE.rd_of (c1.mono S0) O0.out)
  have S0 := Nat.le_trans S0 c1.size
  clear HB hb HA0 la0 HX0 lx0 d00 d01 d02 e00 e01 e02 b0 b1 c0 c1
  go_wp2
  go_ret
  exact ⟨rfl, B⟩

end Go.Proofs.Ytgegpehcddajjaa
