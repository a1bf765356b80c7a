/-
  The law FnExactMapWriter: whatever the input, it returns true and leaves what was there as it was (written by a program of this claim's own, gen_res.py).
-/
import Derived.Test.YtcifdkliiljmkaaGreatDoorMapIK
import Derived.Test.YtcifdkliiljmkaaGreatDoorMapSK
import Derived.Test.YtcifdkliiljmkaaGreatDoorMWriterK
import Derived.Test.YtcifdkliiljmkaaGreatDoorEWriterK
import Derived.Test.YtcifdkliiljmkaaGreatDoorPackB
import Derived.Test.YtcifdkliiljmkaaGreatDoorMStringSK
import Derived.Test.YtcifdkliiljmkaaGreatDoorPackA
import Derived.Test.YtcifdkliiljmkaaGreatDoorCntWRK
import Derived.Test.YtcifdkliiljmkaaGreatDoorStarJK
namespace Go.Proofs.YtcifdkliiljmkaaGreatDoor
open Go.RowKit

set_option maxHeartbeats 4000000 in
set_option maxRecDepth 100000 in
theorem lawMapWriter_any (c0 : List Value) (r0 : Writer) (c1 : Value) (r1 : List ByteArray) (w : World) (h0 : writE.rd w w.heap.size c0 r0) (h1 : strsE.rd w w.heap.size [c1] r1) :
    Calls Tryz.prog 4 #[.agg c0.toArray, c1] w (Gives (.bool true) w) := by
  have R0 := Lib.hid h0
  obtain ⟨p0v2, p0v3, rfl, -, -, p0h2, p0h3⟩ := rd_WriterF h0
  obtain ⟨p0a2, p0n2, p0c2, rfl⟩ := rd_slice p0h2
  obtain ⟨p0a3, p0n3, p0c3, rfl⟩ := rd_slice p0h3
  clear h0 p0h2 p0h3
  obtain ⟨t0, ht⟩ : ∃ t, t = totWriter r0 := ⟨_, rfl⟩
  have HT0 := Lib.hid ht; clear ht
  have hok0 := Lib.hid (fun h : ¬ 1048576 < t0 => ok_of_totWriter (r := r0) (by rw [← HT0.out]; exact h))
  have R1 := Lib.hid h1
  obtain ⟨pa1, pc1, he1, -, -, -⟩ := h1
  obtain rfl : c1 = .slice pa1 r1.length pc1 := by simpa using he1
  clear he1
  have hlen1 := len_le R1.out
  obtain ⟨t1, ht⟩ : ∃ t : Nat, t = strSz r1 := ⟨_, rfl⟩
  have HT1 := Lib.hid ht; clear ht
  obtain ⟨rs, hrs⟩ : ∃ x, x = mapWriter r0 r1 := ⟨_, rfl⟩
  have HRS : Hid (mapWriter r0 r1 = rs) := Lib.hid hrs.symm
  have HCNT : Hid (writM.cnt rs.1 ≤ 4611686018427387000) := Lib.hid (by rw [hrs]; exact cnt_mapWriter _ _)
  clear hrs
  go_enter Tryz.func4, Tryz.ntmps4
  have B : Below w.heap.size w w := Below.refl _ _
  go_wp2_with fail
  generalize hW : w.alloc _ = u1
  obtain ⟨A0, b⟩ := blk1 hW
  clear hW
  have z0 := b.size
  replace B := b
  clear b
  have lA0 := A0.lt
  refine (szWriter_any _ r0 w.heap.size _ _ B.size (writE.rd_of B R0.out) (by omega) (by omega)).mono ?_
  rintro e u2 ⟨rfl, b⟩
  have z1 := b.size
  replace B := B.trans (b.mono B.size)
  replace A0 := A0.of b A0.lt
  clear b
  by_cases hbig0 : (1048576 : Int) < t0
  case pos =>
    rw [lim_of_lt (by rw [← HT0.out]; omega)]
    go_wp2
    go_ret
    exact ⟨rfl, B⟩
  rw [lim_of_ge (by rw [← HT0.out]; omega), ← HT0.out]
  obtain ⟨q0, hq0⟩ : ∃ q : Int, q = 1048576 - (t0 : Int) := ⟨_, rfl⟩
  rw [← hq0]
  have hn0 : ¬ q0 < 0 := by omega
  have g0a : 0 ≤ q0 := by omega
  have g0b : q0 ≤ 1048576 := by omega
  have HQ0 := Lib.hid hq0; clear hq0
  go_wp2_with fail
  refine (szStringS_any _ r1 w.heap.size _ _ (strsE.rd_of B R1.out) (by omega) (by omega)).mono ?_
  rintro e u3 ⟨rfl, b⟩
  have z2 := b.size
  replace B := B.trans (b.mono B.size)
  replace A0 := A0.of b A0.lt
  clear b
  by_cases hbig1 : q0 < t1
  case pos =>
    rw [lim_of_lt (by rw [← HT1.out]; omega)]
    go_wp2
    go_ret
    exact ⟨rfl, B⟩
  rw [lim_of_ge (by rw [← HT1.out]; omega), ← HT1.out]
  obtain ⟨q1, hq1⟩ : ∃ q : Int, q = q0 - (t1 : Int) := ⟨_, rfl⟩
  rw [← hq1]
  have hn1 : ¬ q1 < 0 := by omega
  have g1a : 0 ≤ q1 := by omega
  have g1b : q1 ≤ 1048576 := by omega
  have HQ1 := Lib.hid hq1; clear hq1
  have dA00 := A0.cell 0 rfl
  have dA01 := A0.cell 1 rfl
  have dA02 := A0.cell 2 rfl
  have dA03 := A0.cell 3 rfl
  go_wp2_with fail
  clear dA00 dA01 dA02 dA03
  have ht0 : t0 ≤ 1048576 := by have := HQ0.out; have := HQ1.out; omega
  replace hok0 := Lib.hid (hok0.out (by omega))
  have ht1 : t1 ≤ 1048576 := by have := HQ0.out; have := HQ1.out; omega
  have hok1 : r1.length ≤ 1048576 := by have h9 := HT1.out; unfold strSz at h9; omega
  clear hn0 hbig0 hn1 hbig1
  -- the reference
  refine (toWriter_any _ r0 w.heap.size _ B.size (writE.rd_of B R0.out) hok0.out).mono ?_
  rintro e u4 ⟨x9, fOs0, rfl, o9, nd9, lo9, b⟩
  have z3 := b.size
  replace B := B.trans (b.mono B.size)
  replace A0 := A0.of b A0.lt
  clear b
  have o' := writE.rd_ow o9
  obtain ⟨y0v2, y0v3, rfl, -, -, y0h2, y0h3⟩ := rd_WriterF o'
  obtain ⟨y0a2, y0n2, y0c2, rfl⟩ := rd_slice y0h2
  obtain ⟨y0a3, y0n3, y0c3, rfl⟩ := rd_slice y0h3
  clear o' y0h2 y0h3
  have LOOs0 := Lib.hid lo9; have NDOs0 := Lib.hid nd9; have HIOs0 := Lib.hid (writE.ow_lt o9)
  have Os0 := o9
  clear o9 nd9 lo9
  go_wp2_with fail
  refine (toStringS_any _ r1 w.heap.size _ (strsE.rd_of B R1.out) hok1).mono ?_
  rintro e u5 ⟨x9, fOs1, rfl, o9, nd9, lo9, b⟩
  have z4 := b.size
  replace B := B.trans (b.mono B.size)
  replace A0 := A0.of b A0.lt
  replace Os0 := writE.ow_of b Os0
  clear b
  obtain ⟨y1a, y1n, y1c, rfl⟩ := ow_slice o9
  have LOOs1 := Lib.hid lo9; have NDOs1 := Lib.hid nd9; have HIOs1 := Lib.hid (strsE.ow_lt o9)
  have Os1 := o9
  clear o9 nd9 lo9
  go_wp2_with fail
  refine (specMap_is rs _ r0 _ r1 u5.heap.size _ (Nat.le_refl _) (writE.rd_ow Os0) (strsE.rd_ow Os1) HRS.out).mono ?_
  rintro e u6 ⟨x9, fOw, rfl, o9, nd9, lo9, b⟩
  have z5 := b.size
  replace B := B.trans (b.mono B.size)
  replace A0 := A0.of b A0.lt
  replace Os0 := writE.ow_of b Os0
  replace Os1 := strsE.ow_of b Os1
  clear b
  have o' := writE.rd_ow o9
  obtain ⟨wwv2, wwv3, rfl, -, -, wwh2, wwh3⟩ := rd_WriterF o'
  obtain ⟨wwa2, wwn2, wwc2, rfl⟩ := rd_slice wwh2
  obtain ⟨wwa3, wwn3, wwc3, rfl⟩ := rd_slice wwh3
  clear o' wwh2 wwh3
  have LOOw := Lib.hid lo9; have NDOw := Lib.hid nd9; have HIOw := Lib.hid (writE.ow_lt o9)
  have Ow := o9
  clear o9 nd9 lo9
  have dA00 := fun o => (A0.alloc o).cell 0 rfl
  have dA01 := fun o => (A0.alloc o).cell 1 rfl
  have dA02 := fun o => (A0.alloc o).cell 2 rfl
  have dA03 := fun o => (A0.alloc o).cell 3 rfl
  go_wp2_with fail
  clear dA00 dA01 dA02 dA03
  generalize hW : u6.alloc _ = u7
  obtain ⟨qW0, b⟩ := blk1 hW
  clear hW
  have z6 := b.size
  replace B := B.trans (b.mono B.size)
  replace A0 := A0.of b A0.lt
  replace Os0 := writE.ow_of b Os0
  replace Os1 := strsE.ow_of b Os1
  replace Ow := writE.ow_of b Ow
  have W0 := qW0; have lW0 := W0.lt; clear qW0 b
  clear Os0 LOOs0 HIOs0 NDOs0
  clear Os1 LOOs1 HIOs1 NDOs1
  -- the program
  refine (toWriter_any _ r0 w.heap.size _ B.size (writE.rd_of B R0.out) hok0.out).mono ?_
  rintro e u8 ⟨x9, fOx0, rfl, o9, nd9, lo9, b⟩
  have z7 := b.size
  replace B := B.trans (b.mono B.size)
  replace A0 := A0.of b A0.lt
  replace W0 := W0.of b W0.lt
  replace Ow := writE.ow_of b Ow
  clear b
  have o' := writE.rd_ow o9
  obtain ⟨x0v2, x0v3, rfl, -, -, x0h2, x0h3⟩ := rd_WriterF o'
  obtain ⟨x0a2, x0n2, x0c2, rfl⟩ := rd_slice x0h2
  obtain ⟨x0a3, x0n3, x0c3, rfl⟩ := rd_slice x0h3
  clear o' x0h2 x0h3
  have LOOx0 := Lib.hid lo9; have NDOx0 := Lib.hid nd9; have HIOx0 := Lib.hid (writE.ow_lt o9)
  have Ox0 := o9
  clear o9 nd9 lo9
  go_wp2_with fail
  generalize hW : u8.alloc _ = u9
  obtain ⟨qX0, b⟩ := blk1 hW
  clear hW
  have z8 := b.size
  replace B := B.trans (b.mono B.size)
  replace A0 := A0.of b A0.lt
  replace W0 := W0.of b W0.lt
  replace Ow := writE.ow_of b Ow
  replace Ox0 := writE.ow_of b Ox0
  have X0 := qX0; have lX0 := X0.lt; clear qX0 b
  refine (toStringS_any _ r1 w.heap.size _ (strsE.rd_of B R1.out) hok1).mono ?_
  rintro e u10 ⟨x9, fOx1, rfl, o9, nd9, lo9, b⟩
  have z9 := b.size
  replace B := B.trans (b.mono B.size)
  replace A0 := A0.of b A0.lt
  replace W0 := W0.of b W0.lt
  replace X0 := X0.of b X0.lt
  replace Ow := writE.ow_of b Ow
  replace Ox0 := writE.ow_of b Ox0
  clear b
  obtain ⟨x1a, x1n, x1c, rfl⟩ := ow_slice o9
  have LOOx1 := Lib.hid lo9; have NDOx1 := Lib.hid nd9; have HIOx1 := Lib.hid (strsE.ow_lt o9)
  have Ox1 := o9
  clear o9 nd9 lo9
  have dX00 := X0.cell 0 rfl
  have dX01 := X0.cell 1 rfl
  have dX02 := X0.cell 2 rfl
  have dX03 := X0.cell 3 rfl
  go_wp2_with fail
  clear dX00 dX01 dX02 dX03
  refine (implMap_is rs _ r0 _ r1 u10.heap.size _ (Nat.le_refl _) (writE.rd_ow Ox0) (strsE.rd_ow Ox1) HRS.out).mono ?_
  rintro e u11 ⟨x9, fOg, rfl, o9, nd9, lo9, b⟩
  have z10 := b.size
  replace B := B.trans (b.mono B.size)
  replace A0 := A0.of b A0.lt
  replace W0 := W0.of b W0.lt
  replace X0 := X0.of b X0.lt
  replace Ow := writE.ow_of b Ow
  replace Ox0 := writE.ow_of b Ox0
  replace Ox1 := strsE.ow_of b Ox1
  clear b
  have o' := writE.rd_ow o9
  obtain ⟨ggv2, ggv3, rfl, -, -, ggh2, ggh3⟩ := rd_WriterF o'
  obtain ⟨gga2, ggn2, ggc2, rfl⟩ := rd_slice ggh2
  obtain ⟨gga3, ggn3, ggc3, rfl⟩ := rd_slice ggh3
  clear o' ggh2 ggh3
  have LOOg := Lib.hid lo9; have NDOg := Lib.hid nd9; have HIOg := Lib.hid (writE.ow_lt o9)
  have Og := o9
  clear o9 nd9 lo9
  have dW00 := fun o => (W0.alloc o).cell 0 rfl
  have dW01 := fun o => (W0.alloc o).cell 1 rfl
  have dW02 := fun o => (W0.alloc o).cell 2 rfl
  have dW03 := fun o => (W0.alloc o).cell 3 rfl
  go_wp2_with fail
  clear dW00 dW01 dW02 dW03
  generalize hW : u11.alloc _ = u12
  obtain ⟨qG0, b⟩ := blk1 hW
  clear hW
  have z11 := b.size
  replace B := B.trans (b.mono B.size)
  replace A0 := A0.of b A0.lt
  replace W0 := W0.of b W0.lt
  replace X0 := X0.of b X0.lt
  replace Ow := writE.ow_of b Ow
  replace Ox0 := writE.ow_of b Ox0
  replace Ox1 := strsE.ow_of b Ox1
  replace Og := writE.ow_of b Og
  have G0 := qG0; have lG0 := G0.lt; clear qG0 b
  refine (eqWriter_is true _ _ rs.1 rs.1 _ _ _ (Nat.le_refl _) (Nat.le_refl _) (writE.rd_ow Og) (writE.rd_ow Ow) (decide_eq_true rfl)).mono ?_
  rintro e u13 ⟨rfl, b⟩
  have z12 := b.size
  replace B := B.trans (b.mono B.size)
  replace A0 := A0.of b A0.lt
  replace W0 := W0.of b W0.lt
  replace X0 := X0.of b X0.lt
  replace G0 := G0.of b G0.lt
  replace Ow := writE.ow_of b Ow
  replace Ox0 := writE.ow_of b Ox0
  replace Ox1 := strsE.ow_of b Ox1
  replace Og := writE.ow_of b Og
  clear b
  -- an argument as before
  go_wp2_with fail
  have HA0 := Lib.hid A0; clear A0
  have HW0 := Lib.hid W0; clear W0
  have HX0 := Lib.hid X0; clear X0
  have HG0 := Lib.hid G0; clear G0
  have HOw := Lib.hid Ow; clear Ow
  have HOx0 := Lib.hid Ox0; clear Ox0
  have HOx1 := Lib.hid Ox1; clear Ox1
  have HOg := Lib.hid Og; clear Og
  have HB := Lib.hid B; have hb := B.size; clear B
  have dA00 := HA0.out.cell 0 rfl
  have dA01 := HA0.out.cell 1 rfl
  have dA02 := HA0.out.cell 2 rfl
  have dA03 := HA0.out.cell 3 rfl
  have dX00 := HX0.out.cell 0 rfl
  have dX01 := HX0.out.cell 1 rfl
  have dX02 := HX0.out.cell 2 rfl
  have dX03 := HX0.out.cell 3 rfl
  go_region_held3 (fun w' => w'.cell? ⟨w.heap.size, 0, none⟩ = some (.int .i64 r0.turner.letters) ∧ w'.cell? ⟨w.heap.size, 1, none⟩ = some (.int .i64 r0.turner.start) ∧ w'.cell? ⟨w.heap.size, 2, none⟩ = some (.slice p0a2 p0n2 p0c2) ∧ w'.cell? ⟨w.heap.size, 3, none⟩ = some (.slice p0a3 p0n3 p0c3) ∧ w'.cell? ⟨u8.heap.size, 0, none⟩ = some (.int .i64 r0.turner.letters) ∧ w'.cell? ⟨u8.heap.size, 1, none⟩ = some (.int .i64 r0.turner.start) ∧ w'.cell? ⟨u8.heap.size, 2, none⟩ = some (.slice x0a2 x0n2 x0c2) ∧ w'.cell? ⟨u8.heap.size, 3, none⟩ = some (.slice x0a3 x0n3 x0c3))
    (first
      | go_keep
      | (have A0 := HA0.out.of c0 HA0.out.lt
         have X0 := HX0.out.of c0 HX0.out.lt
         exact ⟨A0.cell 0 rfl, A0.cell 1 rfl, A0.cell 2 rfl, A0.cell 3 rfl, X0.cell 0 rfl, X0.cell 1 rfl, X0.cell 2 rfl, X0.cell 3 rfl⟩)
      | (have A0 := HA0.out.of c1 HA0.out.lt
         have X0 := HX0.out.of c1 HX0.out.lt
         exact ⟨A0.cell 0 rfl, A0.cell 1 rfl, A0.cell 2 rfl, A0.cell 3 rfl, X0.cell 0 rfl, X0.cell 1 rfl, X0.cell 2 rfl, X0.cell 3 rfl⟩))
    (first
      | (go_at_call 8
         refine (toWriter_any _ r0 w.heap.size _ (by exact hb) (by exact writE.rd_of HB.out.drew R0.out) hok0.out).mono ?_
         rintro e y00 ⟨x90, fOy0, rfl, oOy0, ndOy0, loOy0, b0⟩
         have c0 : Below u13.heap.size u13 y00 := (Below.refl _ u13).drew.trans b0
         have o' := writE.rd_ow oOy0
         obtain ⟨t0v2, t0v3, rfl, -, -, t0h2, t0h3⟩ := rd_WriterF o'
         obtain ⟨t0a2, t0n2, t0c2, rfl⟩ := rd_slice t0h2
         obtain ⟨t0a3, t0n3, t0c3, rfl⟩ := rd_slice t0h3
         clear o' t0h2 t0h3)
      | (go_at_call 12
         refine (eqWriter_is true _ _ r0 r0 _ _ _ (Nat.le_refl _) (Nat.le_refl _) (writE.rd_ow (writE.ow_of c0 HOx0.out)) (writE.rd_ow oOy0) (decide_eq_true rfl)).mono ?_
         rintro e y01 ⟨rfl, b1⟩
         have c1 : Below u13.heap.size u13 y01 := c0.trans (b1.mono c0.size)))
  have B := HB.out
  have A0 := HA0.out
  have W0 := HW0.out
  have X0 := HX0.out
  have G0 := HG0.out
  have Ow := HOw.out
  have Ox0 := HOx0.out
  have Ox1 := HOx1.out
  have Og := HOg.out
  clear HB hb HA0 HW0 HX0 HG0 HOw HOx0 HOx1 HOg
  clear dA00 dA01 dA02 dA03 dX00 dX01 dX02 dX03
  have z13 := c1.size
  replace B := B.trans (c1.mono B.size)
  replace A0 := A0.of c1 A0.lt
  replace W0 := W0.of c1 W0.lt
  replace X0 := X0.of c1 X0.lt
  replace G0 := G0.of c1 G0.lt
  replace Ow := writE.ow_of c1 Ow
  replace Ox0 := writE.ow_of c1 Ox0
  replace Ox1 := strsE.ow_of c1 Ox1
  replace Og := writE.ow_of c1 Og
  clear oOy0 ndOy0 loOy0 b0 b1 c0 c1
  -- an argument as before
  go_wp2_with fail
  refine (toStringS_any _ r1 w.heap.size _ (strsE.rd_of B R1.out) hok1).mono ?_
  rintro e u14 ⟨x9, fOy1, rfl, o9, nd9, lo9, b⟩
  have z14 := b.size
  replace B := B.trans (b.mono B.size)
  replace A0 := A0.of b A0.lt
  replace W0 := W0.of b W0.lt
  replace X0 := X0.of b X0.lt
  replace G0 := G0.of b G0.lt
  replace Ow := writE.ow_of b Ow
  replace Ox0 := writE.ow_of b Ox0
  replace Ox1 := strsE.ow_of b Ox1
  replace Og := writE.ow_of b Og
  clear b
  obtain ⟨yy1a, yy1n, yy1c, rfl⟩ := ow_slice o9
  have LOOy1 := Lib.hid lo9; have NDOy1 := Lib.hid nd9; have HIOy1 := Lib.hid (strsE.ow_lt o9)
  have Oy1 := o9
  clear o9 nd9 lo9
  go_wp2_with fail
  refine (eqStringS_is true _ _ r1 r1 _ _ _ (decide_eq_true rfl) (strsE.rd_ow Ox1) (strsE.rd_ow Oy1)).mono ?_
  rintro e u15 ⟨rfl, b⟩
  have z15 := b.size
  replace B := B.trans (b.mono B.size)
  replace A0 := A0.of b A0.lt
  replace W0 := W0.of b W0.lt
  replace X0 := X0.of b X0.lt
  replace G0 := G0.of b G0.lt
  replace Ow := writE.ow_of b Ow
  replace Ox0 := writE.ow_of b Ox0
  replace Ox1 := strsE.ow_of b Ox1
  replace Og := writE.ow_of b Og
  replace Oy1 := strsE.ow_of b Oy1
  clear b
  clear Oy1 LOOy1 HIOy1 NDOy1
  -- marks on an argument
  have dX00 := X0.cell 0 rfl
  have dX01 := X0.cell 1 rfl
  have dX02 := X0.cell 2 rfl
  have dX03 := X0.cell 3 rfl
  go_wp2_with fail
  clear dX00 dX01 dX02 dX03
  have HC0 : Hid (writM.cnt r0 ≤ 10000000) := Lib.hid (Nat.le_trans (cnt_le_totWriter r0) (by rw [← HT0.out]; omega))
  refine (markWriter_any _ r0 fOx0 _ _ Ox0 NDOx0.out (by omega) (by have := HC0.out; omega)).mono ?_
  rintro e u16 ⟨x9, rfl, om, -, -, bt⟩
  have z16 := bt.size
  replace B := B.trans (bt.below (fun b hb => by have := LOOx0.out b hb; omega) B.size)
  replace A0 := A0.but bt (fun hb => by have := LOOx0.out _ hb; have := HIOx0.out _ hb; omega)
  replace W0 := W0.but bt (fun hb => by have := LOOx0.out _ hb; have := HIOx0.out _ hb; omega)
  replace X0 := X0.but bt (fun hb => by have := LOOx0.out _ hb; have := HIOx0.out _ hb; omega)
  replace G0 := G0.but bt (fun hb => by have := LOOx0.out _ hb; have := HIOx0.out _ hb; omega)
  replace Ow := writE.ow_but Ow bt (fun b hb hq => by have := LOOw.out b hb; have := HIOw.out b hb; have := LOOx0.out b hq; have := HIOx0.out b hq; omega)
  replace Ox1 := strsE.ow_but Ox1 bt (fun b hb hq => by have := LOOx1.out b hb; have := HIOx1.out b hb; have := LOOx0.out b hq; have := HIOx0.out b hq; omega)
  replace Og := writE.ow_but Og bt (fun b hb hq => by have := LOOg.out b hb; have := HIOg.out b hb; have := LOOx0.out b hq; have := HIOx0.out b hq; omega)
  clear bt om x9
  clear Ox0 LOOx0 HIOx0 NDOx0
  clear X0
  obtain ⟨kk0, hk9⟩ : ∃ q : Int, q = 1 + ((writM.cnt r0 : Nat) : Int) := ⟨_, rfl⟩
  rw [← hk9]
  have hnkk0 : ¬ kk0 < 0 := by omega
  have gekk0 : 0 ≤ kk0 := by omega
  have gtkk0 : 0 < kk0 := by omega
  have Hkk0 := Lib.hid hk9; clear hk9
  have gbkk0 : kk0 ≤ 20000000 := by have := Hkk0.out; have := HC0.out; omega
  -- marks on an argument
  go_wp2_with fail
  have HC1 : Hid (strsM.cnt r1 ≤ 10000000) := Lib.hid (by have h9 : strsM.cnt r1 = r1.length := rfl; rw [h9]; omega)
  refine (markStringS_any _ r1 fOx1 _ _ Ox1 (by omega) (by omega)).mono ?_
  rintro e u17 ⟨x9, rfl, om, -, -, bt⟩
  have z17 := bt.size
  replace B := B.trans (bt.below (fun b hb => by have := LOOx1.out b hb; omega) B.size)
  replace A0 := A0.but bt (fun hb => by have := LOOx1.out _ hb; have := HIOx1.out _ hb; omega)
  replace W0 := W0.but bt (fun hb => by have := LOOx1.out _ hb; have := HIOx1.out _ hb; omega)
  replace G0 := G0.but bt (fun hb => by have := LOOx1.out _ hb; have := HIOx1.out _ hb; omega)
  replace Ow := writE.ow_but Ow bt (fun b hb hq => by have := LOOw.out b hb; have := HIOw.out b hb; have := LOOx1.out b hq; have := HIOx1.out b hq; omega)
  replace Og := writE.ow_but Og bt (fun b hb hq => by have := LOOg.out b hb; have := HIOg.out b hb; have := LOOx1.out b hq; have := HIOx1.out b hq; omega)
  clear bt om x9
  clear Ox1 LOOx1 HIOx1 NDOx1
  obtain ⟨kk1, hk9⟩ : ∃ q : Int, q = kk0 + ((strsM.cnt r1 : Nat) : Int) := ⟨_, rfl⟩
  rw [← hk9]
  have hnkk1 : ¬ kk1 < 0 := by omega
  have gekk1 : 0 ≤ kk1 := by omega
  have gtkk1 : 0 < kk1 := by omega
  have Hkk1 := Lib.hid hk9; clear hk9
  have gbkk1 : kk1 ≤ 40000000 := by have := Hkk1.out; have := HC1.out; omega
  have dG00 := G0.cell 0 rfl
  have dG01 := G0.cell 1 rfl
  have dG02 := G0.cell 2 rfl
  have dG03 := G0.cell 3 rfl
  have dW00 := W0.cell 0 rfl
  have dW01 := W0.cell 1 rfl
  have dW02 := W0.cell 2 rfl
  have dW03 := W0.cell 3 rfl
  go_wp2_with fail
  clear dG00 dG01 dG02 dG03 dW00 dW01 dW02 dW03
  refine (eqWriter_is true _ _ rs.1 rs.1 _ _ _ (Nat.le_refl _) (Nat.le_refl _) (writE.rd_ow Og) (writE.rd_ow Ow) (decide_eq_true rfl)).mono ?_
  rintro e u18 ⟨rfl, b⟩
  have z18 := b.size
  replace B := B.trans (b.mono B.size)
  replace A0 := A0.of b A0.lt
  replace W0 := W0.of b W0.lt
  replace G0 := G0.of b G0.lt
  replace Ow := writE.ow_of b Ow
  replace Og := writE.ow_of b Og
  clear b
  -- marks on the result
  have dG00 := G0.cell 0 rfl
  have dG01 := G0.cell 1 rfl
  have dG02 := G0.cell 2 rfl
  have dG03 := G0.cell 3 rfl
  go_wp2_with fail
  clear dG00 dG01 dG02 dG03
  refine (markWriter_any _ rs.1 fOg 1 _ Og NDOg.out (by omega) (by have := HCNT.out; omega)).mono ?_
  rintro e u19 ⟨mr, rfl, om, hm9, hc9, bt⟩
  have z19 := bt.size
  replace B := B.trans (bt.below (fun b hb => by have := LOOg.out b hb; omega) B.size)
  replace A0 := A0.but bt (fun hb => by have := LOOg.out _ hb; have := HIOg.out _ hb; omega)
  replace W0 := W0.but bt (fun hb => by have := LOOg.out _ hb; have := HIOg.out _ hb; omega)
  replace G0 := G0.but bt (fun hb => by have := LOOg.out _ hb; have := HIOg.out _ hb; omega)
  replace Ow := writE.ow_but Ow bt (fun b hb hq => by have := LOOw.out b hb; have := HIOw.out b hb; have := LOOg.out b hq; have := HIOg.out b hq; omega)
  replace Og := om
  clear om bt
  have HM := Lib.hid hm9; have HC := Lib.hid hc9; clear hm9 hc9
  obtain ⟨mm, hk9⟩ : ∃ q : Int, q = 1 + ((writM.cnt rs.1 : Nat) : Int) := ⟨_, rfl⟩
  rw [← hk9]
  have hnmm : ¬ mm < 0 := by omega
  have gemm : 0 ≤ mm := by omega
  have gtmm : 0 < mm := by omega
  have Hmm := Lib.hid hk9; clear hk9
  have dG00 := G0.cell 0 rfl
  have dG01 := G0.cell 1 rfl
  have dG02 := G0.cell 2 rfl
  have dG03 := G0.cell 3 rfl
  go_wp2_with fail
  clear dG00 dG01 dG02 dG03
  refine (heldWriter_any _ mr _ 1 _ (Nat.le_refl _) (writE.rd_ow Og) HM.out (by omega) (by have := HC.out; have := HCNT.out; omega)).mono ?_
  rintro e u20 ⟨rfl, b⟩
  have z20 := b.size
  replace B := B.trans (b.mono B.size)
  replace A0 := A0.of b A0.lt
  replace W0 := W0.of b W0.lt
  replace G0 := G0.of b G0.lt
  replace Ow := writE.ow_of b Ow
  replace Og := writE.ow_of b Og
  clear b
  rw [show (1 : Int) + ((writM.cnt mr : Nat) : Int) = mm from by rw [HC.out, Hmm.out]]
  -- once more
  have dA00 := A0.cell 0 rfl
  have dA01 := A0.cell 1 rfl
  have dA02 := A0.cell 2 rfl
  have dA03 := A0.cell 3 rfl
  go_wp2_with fail
  clear dA00 dA01 dA02 dA03
  refine (toWriter_any _ r0 w.heap.size _ B.size (writE.rd_of B R0.out) hok0.out).mono ?_
  rintro e u21 ⟨x9, fOz0, rfl, o9, nd9, lo9, b⟩
  have z21 := b.size
  replace B := B.trans (b.mono B.size)
  replace A0 := A0.of b A0.lt
  replace W0 := W0.of b W0.lt
  replace G0 := G0.of b G0.lt
  replace Ow := writE.ow_of b Ow
  replace Og := writE.ow_of b Og
  clear b
  have o' := writE.rd_ow o9
  obtain ⟨zz0v2, zz0v3, rfl, -, -, zz0h2, zz0h3⟩ := rd_WriterF o'
  obtain ⟨zz0a2, zz0n2, zz0c2, rfl⟩ := rd_slice zz0h2
  obtain ⟨zz0a3, zz0n3, zz0c3, rfl⟩ := rd_slice zz0h3
  clear o' zz0h2 zz0h3
  have LOOz0 := Lib.hid lo9; have NDOz0 := Lib.hid nd9; have HIOz0 := Lib.hid (writE.ow_lt o9)
  have Oz0 := o9
  clear o9 nd9 lo9
  go_wp2_with fail
  refine (toStringS_any _ r1 w.heap.size _ (strsE.rd_of B R1.out) hok1).mono ?_
  rintro e u22 ⟨x9, fOz1, rfl, o9, nd9, lo9, b⟩
  have z22 := b.size
  replace B := B.trans (b.mono B.size)
  replace A0 := A0.of b A0.lt
  replace W0 := W0.of b W0.lt
  replace G0 := G0.of b G0.lt
  replace Ow := writE.ow_of b Ow
  replace Og := writE.ow_of b Og
  replace Oz0 := writE.ow_of b Oz0
  clear b
  obtain ⟨zz1a, zz1n, zz1c, rfl⟩ := ow_slice o9
  have LOOz1 := Lib.hid lo9; have NDOz1 := Lib.hid nd9; have HIOz1 := Lib.hid (strsE.ow_lt o9)
  have Oz1 := o9
  clear o9 nd9 lo9
  go_wp2_with fail
  refine (implMap_is rs _ r0 _ r1 u22.heap.size _ (Nat.le_refl _) (writE.rd_ow Oz0) (strsE.rd_ow Oz1) HRS.out).mono ?_
  rintro e u23 ⟨x9, fOh, rfl, o9, nd9, lo9, b⟩
  have z23 := b.size
  replace B := B.trans (b.mono B.size)
  replace A0 := A0.of b A0.lt
  replace W0 := W0.of b W0.lt
  replace G0 := G0.of b G0.lt
  replace Ow := writE.ow_of b Ow
  replace Og := writE.ow_of b Og
  replace Oz0 := writE.ow_of b Oz0
  replace Oz1 := strsE.ow_of b Oz1
  clear b
  have o' := writE.rd_ow o9
  obtain ⟨hhv2, hhv3, rfl, -, -, hhh2, hhh3⟩ := rd_WriterF o'
  obtain ⟨hha2, hhn2, hhc2, rfl⟩ := rd_slice hhh2
  obtain ⟨hha3, hhn3, hhc3, rfl⟩ := rd_slice hhh3
  clear o' hhh2 hhh3
  have LOOh := Lib.hid lo9; have NDOh := Lib.hid nd9; have HIOh := Lib.hid (writE.ow_lt o9)
  have Oh := o9
  clear o9 nd9 lo9
  have dW00 := fun o => (W0.alloc o).cell 0 rfl
  have dW01 := fun o => (W0.alloc o).cell 1 rfl
  have dW02 := fun o => (W0.alloc o).cell 2 rfl
  have dW03 := fun o => (W0.alloc o).cell 3 rfl
  go_wp2_with fail
  clear dW00 dW01 dW02 dW03
  generalize hW : u23.alloc _ = u24
  obtain ⟨qH0, b⟩ := blk1 hW
  clear hW
  have z24 := b.size
  replace B := B.trans (b.mono B.size)
  replace A0 := A0.of b A0.lt
  replace W0 := W0.of b W0.lt
  replace G0 := G0.of b G0.lt
  replace Ow := writE.ow_of b Ow
  replace Og := writE.ow_of b Og
  replace Oz0 := writE.ow_of b Oz0
  replace Oz1 := strsE.ow_of b Oz1
  replace Oh := writE.ow_of b Oh
  have H0 := qH0; have lH0 := H0.lt; clear qH0 b
  clear Oz0 LOOz0 HIOz0 NDOz0
  clear Oz1 LOOz1 HIOz1 NDOz1
  refine (eqWriter_is true _ _ rs.1 rs.1 _ _ _ (Nat.le_refl _) (Nat.le_refl _) (writE.rd_ow Oh) (writE.rd_ow Ow) (decide_eq_true rfl)).mono ?_
  rintro e u25 ⟨rfl, b⟩
  have z25 := b.size
  replace B := B.trans (b.mono B.size)
  replace A0 := A0.of b A0.lt
  replace W0 := W0.of b W0.lt
  replace G0 := G0.of b G0.lt
  replace H0 := H0.of b H0.lt
  replace Ow := writE.ow_of b Ow
  replace Og := writE.ow_of b Og
  replace Oh := writE.ow_of b Oh
  clear b
  have dG00 := G0.cell 0 rfl
  have dG01 := G0.cell 1 rfl
  have dG02 := G0.cell 2 rfl
  have dG03 := G0.cell 3 rfl
  go_wp2_with fail
  clear dG00 dG01 dG02 dG03
  refine (heldWriter_any _ mr _ 1 _ (Nat.le_refl _) (writE.rd_ow Og) HM.out (by omega) (by have := HC.out; have := HCNT.out; omega)).mono ?_
  rintro e u26 ⟨rfl, b⟩
  have z26 := b.size
  replace B := B.trans (b.mono B.size)
  replace A0 := A0.of b A0.lt
  replace W0 := W0.of b W0.lt
  replace G0 := G0.of b G0.lt
  replace H0 := H0.of b H0.lt
  replace Ow := writE.ow_of b Ow
  replace Og := writE.ow_of b Og
  replace Oh := writE.ow_of b Oh
  clear b
  rw [show (1 : Int) + ((writM.cnt mr : Nat) : Int) = mm from by rw [HC.out, Hmm.out]]
  go_wp2
  go_ret
  exact ⟨rfl, B⟩

end Go.Proofs.YtcifdkliiljmkaaGreatDoor
