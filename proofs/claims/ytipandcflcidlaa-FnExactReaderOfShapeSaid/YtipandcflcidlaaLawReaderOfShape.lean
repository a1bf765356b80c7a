/-
  The law FnExactReaderOfShape: whatever the input, it returns true and leaves what was there as it was (written by a program of this claim's own, gen_res.py).
-/
import Derived.Test.YtipandcflcidlaaShapeR
import Derived.Test.YtipandcflcidlaaMReader
import Derived.Test.YtipandcflcidlaaEReader
import Derived.Test.YtipandcflcidlaaLBoolS
import Derived.Test.YtipandcflcidlaaMBoolS
import Derived.Test.YtipandcflcidlaaOver
namespace Go.Proofs.Ytipandcflcidlaa
open Go.RowKit

set_option maxHeartbeats 4000000 in
set_option maxRecDepth 100000 in
theorem lawReaderOfShape_any (a0 : Int) (c1 : Value) (r1 : List Bool) (w : World) (h0 : -9223372036854775808 ≤ a0 ∧ a0 ≤ 9223372036854775807) (h1 : boolsE.rd w w.heap.size [c1] r1) :
    Calls Try.prog 3 #[.int .i64 a0, c1] w (Gives (.bool true) w) := by
  have R1 := Lib.hid h1
  obtain ⟨pa1, pc1, he1, -, -, -⟩ := h1
  obtain rfl : c1 = .slice pa1 r1.length pc1 := by simpa using he1
  clear he1
  have hlen1 := len_le R1.out
  by_cases hbig1 : (1048576 : Int) < (r1.length : Int)
  case pos =>
    go_enter Try.func3, Try.ntmps3
    go_wp2
    go_ret
    exact ⟨rfl, Below.refl _ _⟩
  have hok1 : r1.length ≤ 1048576 := by omega
  obtain ⟨rs, hrs⟩ : ∃ x, x = readerOfShape a0 r1 := ⟨_, rfl⟩
  have HRS : Hid (readerOfShape a0 r1 = rs) := Lib.hid hrs.symm
  have HCNT : Hid (readM.cnt rs.1 ≤ 4611686018427387000) := Lib.hid (by rw [hrs]; exact cnt_readerOfShape _ _)
  clear hrs
  go_enter Try.func3, Try.ntmps3
  have B : Below w.heap.size w w := Below.refl _ _
  go_wp2_with fail
  -- the reference
  refine (toBoolS_any _ r1 w.heap.size _ (boolsE.rd_of B R1.out) hok1).mono ?_
  rintro e u1 ⟨x9, fOs1, rfl, o9, nd9, lo9, b⟩
  have z1 := b.size
  replace B := B.trans (b.mono B.size)
  clear b
  obtain ⟨y1a, y1n, y1c, rfl⟩ := ow_slice o9
  have LOOs1 := Lib.hid lo9; have NDOs1 := Lib.hid nd9; have HIOs1 := Lib.hid (boolsE.ow_lt o9)
  have Os1 := o9
  clear o9 nd9 lo9
  go_wp2_with fail
  refine (specReaderOfShape_is rs a0 _ r1 u1.heap.size _ (Nat.le_refl _) h0 (boolsE.rd_ow Os1) HRS.out).mono ?_
  rintro e u2 ⟨x9, fOw, rfl, o9, nd9, lo9, b⟩
  have z2 := b.size
  replace B := B.trans (b.mono B.size)
  replace Os1 := boolsE.ow_of b Os1
  clear b
  have o' := readE.rd_ow o9
  obtain ⟨wwv2, wwv3, rfl, -, -, wwh2, wwh3⟩ := rd_Reader o'
  obtain ⟨wwa2, wwn2, wwc2, rfl⟩ := rd_slice wwh2
  obtain ⟨wwa3, wwn3, wwc3, rfl⟩ := rd_slice wwh3
  clear o' wwh2 wwh3
  have LOOw := Lib.hid lo9; have NDOw := Lib.hid nd9; have HIOw := Lib.hid (readE.ow_lt o9)
  have Ow := o9
  clear o9 nd9 lo9
  go_wp2_with fail
  generalize hW : u2.alloc _ = u3
  obtain ⟨qW0, b⟩ := blk1 hW
  clear hW
  have z3 := b.size
  replace B := B.trans (b.mono B.size)
  replace Os1 := boolsE.ow_of b Os1
  replace Ow := readE.ow_of b Ow
  have W0 := qW0; have lW0 := W0.lt; clear qW0 b
  clear Os1 LOOs1 HIOs1 NDOs1
  -- the program
  refine (toBoolS_any _ r1 w.heap.size _ (boolsE.rd_of B R1.out) hok1).mono ?_
  rintro e u4 ⟨x9, fOx1, rfl, o9, nd9, lo9, b⟩
  have z4 := b.size
  replace B := B.trans (b.mono B.size)
  replace W0 := W0.of b W0.lt
  replace Ow := readE.ow_of b Ow
  clear b
  obtain ⟨x1a, x1n, x1c, rfl⟩ := ow_slice o9
  have LOOx1 := Lib.hid lo9; have NDOx1 := Lib.hid nd9; have HIOx1 := Lib.hid (boolsE.ow_lt o9)
  have Ox1 := o9
  clear o9 nd9 lo9
  go_wp2_with fail
  refine (readerOfShape_is rs a0 _ r1 u4.heap.size _ (Nat.le_refl _) h0 (boolsE.rd_ow Ox1) HRS.out).mono ?_
  rintro e u5 ⟨x9, fOg, rfl, o9, nd9, lo9, b⟩
  have z5 := b.size
  replace B := B.trans (b.mono B.size)
  replace W0 := W0.of b W0.lt
  replace Ow := readE.ow_of b Ow
  replace Ox1 := boolsE.ow_of b Ox1
  clear b
  have o' := readE.rd_ow o9
  obtain ⟨ggv2, ggv3, rfl, -, -, ggh2, ggh3⟩ := rd_Reader o'
  obtain ⟨gga2, ggn2, ggc2, rfl⟩ := rd_slice ggh2
  obtain ⟨gga3, ggn3, ggc3, rfl⟩ := rd_slice ggh3
  clear o' ggh2 ggh3
  have LOOg := Lib.hid lo9; have NDOg := Lib.hid nd9; have HIOg := Lib.hid (readE.ow_lt o9)
  have Og := o9
  clear o9 nd9 lo9
  have dW00 := fun o => (W0.alloc o).cell 0 rfl
  have dW01 := fun o => (W0.alloc o).cell 1 rfl
  have dW02 := fun o => (W0.alloc o).cell 2 rfl
  have dW03 := fun o => (W0.alloc o).cell 3 rfl
  go_wp2_with fail
  clear dW00 dW01 dW02 dW03
  generalize hW : u5.alloc _ = u6
  obtain ⟨qG0, b⟩ := blk1 hW
  clear hW
  have z6 := b.size
  replace B := B.trans (b.mono B.size)
  replace W0 := W0.of b W0.lt
  replace Ow := readE.ow_of b Ow
  replace Ox1 := boolsE.ow_of b Ox1
  replace Og := readE.ow_of b Og
  have G0 := qG0; have lG0 := G0.lt; clear qG0 b
  refine (eqReader_is true _ _ rs.1 rs.1 _ _ _ (Nat.le_refl _) (Nat.le_refl _) (readE.rd_ow Og) (readE.rd_ow Ow) (decide_eq_true rfl)).mono ?_
  rintro e u7 ⟨rfl, b⟩
  have z7 := b.size
  replace B := B.trans (b.mono B.size)
  replace W0 := W0.of b W0.lt
  replace G0 := G0.of b G0.lt
  replace Ow := readE.ow_of b Ow
  replace Ox1 := boolsE.ow_of b Ox1
  replace Og := readE.ow_of b Og
  clear b
  -- an argument as before
  go_wp2_with fail
  refine (toBoolS_any _ r1 w.heap.size _ (boolsE.rd_of B R1.out) hok1).mono ?_
  rintro e u8 ⟨x9, fOy1, rfl, o9, nd9, lo9, b⟩
  have z8 := b.size
  replace B := B.trans (b.mono B.size)
  replace W0 := W0.of b W0.lt
  replace G0 := G0.of b G0.lt
  replace Ow := readE.ow_of b Ow
  replace Ox1 := boolsE.ow_of b Ox1
  replace Og := readE.ow_of b Og
  clear b
  obtain ⟨yy1a, yy1n, yy1c, rfl⟩ := ow_slice o9
  have LOOy1 := Lib.hid lo9; have NDOy1 := Lib.hid nd9; have HIOy1 := Lib.hid (boolsE.ow_lt o9)
  have Oy1 := o9
  clear o9 nd9 lo9
  go_wp2_with fail
  refine (eqBoolS_is true _ _ r1 r1 _ _ _ (decide_eq_true rfl) (boolsE.rd_ow Ox1) (boolsE.rd_ow Oy1)).mono ?_
  rintro e u9 ⟨rfl, b⟩
  have z9 := b.size
  replace B := B.trans (b.mono B.size)
  replace W0 := W0.of b W0.lt
  replace G0 := G0.of b G0.lt
  replace Ow := readE.ow_of b Ow
  replace Ox1 := boolsE.ow_of b Ox1
  replace Og := readE.ow_of b Og
  replace Oy1 := boolsE.ow_of b Oy1
  clear b
  clear Oy1 LOOy1 HIOy1 NDOy1
  -- marks on an argument
  go_wp2_with fail
  refine (markBoolS_any _ r1 fOx1 _ _ Ox1 (by omega) (by omega)).mono ?_
  rintro e u10 ⟨x9, rfl, om, -, -, bt⟩
  have z10 := bt.size
  replace B := B.trans (bt.below (fun b hb => by have := LOOx1.out b hb; omega) B.size)
  replace W0 := W0.but bt (fun hb => by have := LOOx1.out _ hb; have := HIOx1.out _ hb; omega)
  replace G0 := G0.but bt (fun hb => by have := LOOx1.out _ hb; have := HIOx1.out _ hb; omega)
  replace Ow := readE.ow_but Ow bt (fun b hb hq => by have := LOOw.out b hb; have := HIOw.out b hb; have := LOOx1.out b hq; have := HIOx1.out b hq; omega)
  replace Og := readE.ow_but Og bt (fun b hb hq => by have := LOOg.out b hb; have := HIOg.out b hb; have := LOOx1.out b hq; have := HIOx1.out b hq; omega)
  clear bt om x9
  clear Ox1 LOOx1 HIOx1 NDOx1
  have hbm : boolsM.cnt r1 = r1.length := rfl
  rw [hbm]
  clear hbm
  obtain ⟨kk0, hk9⟩ : ∃ q : Int, q = 1 + (r1.length : Int) := ⟨_, rfl⟩
  rw [← hk9]
  have hnkk0 : ¬ kk0 < 0 := by omega
  have gekk0 : 0 ≤ kk0 := by omega
  have Hkk0 := Lib.hid hk9; clear hk9
  have gbkk0 : kk0 ≤ 20000000 := by have := Hkk0.out; omega
  have dG00 := G0.cell 0 rfl
  have dG01 := G0.cell 1 rfl
  have dG02 := G0.cell 2 rfl
  have dG03 := G0.cell 3 rfl
  have dW00 := W0.cell 0 rfl
  have dW01 := W0.cell 1 rfl
  have dW02 := W0.cell 2 rfl
  have dW03 := W0.cell 3 rfl
  go_wp2_with fail
  clear dG00 dG01 dG02 dG03 dW00 dW01 dW02 dW03
  refine (eqReader_is true _ _ rs.1 rs.1 _ _ _ (Nat.le_refl _) (Nat.le_refl _) (readE.rd_ow Og) (readE.rd_ow Ow) (decide_eq_true rfl)).mono ?_
  rintro e u11 ⟨rfl, b⟩
  have z11 := b.size
  replace B := B.trans (b.mono B.size)
  replace W0 := W0.of b W0.lt
  replace G0 := G0.of b G0.lt
  replace Ow := readE.ow_of b Ow
  replace Og := readE.ow_of b Og
  clear b
  -- marks on the result
  have dG00 := G0.cell 0 rfl
  have dG01 := G0.cell 1 rfl
  have dG02 := G0.cell 2 rfl
  have dG03 := G0.cell 3 rfl
  go_wp2_with fail
  clear dG00 dG01 dG02 dG03
  refine (markReader_any _ rs.1 fOg 1 _ Og NDOg.out (by omega) (by have := HCNT.out; omega)).mono ?_
  rintro e u12 ⟨mr, rfl, om, hm9, hc9, bt⟩
  have z12 := bt.size
  replace B := B.trans (bt.below (fun b hb => by have := LOOg.out b hb; omega) B.size)
  replace W0 := W0.but bt (fun hb => by have := LOOg.out _ hb; have := HIOg.out _ hb; omega)
  replace G0 := G0.but bt (fun hb => by have := LOOg.out _ hb; have := HIOg.out _ hb; omega)
  replace Ow := readE.ow_but Ow bt (fun b hb hq => by have := LOOw.out b hb; have := HIOw.out b hb; have := LOOg.out b hq; have := HIOg.out b hq; omega)
  replace Og := om
  clear om bt
  have HM := Lib.hid hm9; have HC := Lib.hid hc9; clear hm9 hc9
  obtain ⟨mm, hk9⟩ : ∃ q : Int, q = 1 + ((readM.cnt rs.1 : Nat) : Int) := ⟨_, rfl⟩
  rw [← hk9]
  have hnmm : ¬ mm < 0 := by omega
  have gemm : 0 ≤ mm := by omega
  have Hmm := Lib.hid hk9; clear hk9
  have dG00 := G0.cell 0 rfl
  have dG01 := G0.cell 1 rfl
  have dG02 := G0.cell 2 rfl
  have dG03 := G0.cell 3 rfl
  go_wp2_with fail
  clear dG00 dG01 dG02 dG03
  refine (heldReader_any _ mr _ 1 _ (Nat.le_refl _) (readE.rd_ow Og) HM.out (by omega) (by have := HC.out; have := HCNT.out; omega)).mono ?_
  rintro e u13 ⟨rfl, b⟩
  have z13 := b.size
  replace B := B.trans (b.mono B.size)
  replace W0 := W0.of b W0.lt
  replace G0 := G0.of b G0.lt
  replace Ow := readE.ow_of b Ow
  replace Og := readE.ow_of b Og
  clear b
  rw [show (1 : Int) + ((readM.cnt mr : Nat) : Int) = mm from by rw [HC.out, Hmm.out]]
  -- once more
  go_wp2_with fail
  refine (toBoolS_any _ r1 w.heap.size _ (boolsE.rd_of B R1.out) hok1).mono ?_
  rintro e u14 ⟨x9, fOz1, rfl, o9, nd9, lo9, b⟩
  have z14 := b.size
  replace B := B.trans (b.mono B.size)
  replace W0 := W0.of b W0.lt
  replace G0 := G0.of b G0.lt
  replace Ow := readE.ow_of b Ow
  replace Og := readE.ow_of b Og
  clear b
  obtain ⟨zz1a, zz1n, zz1c, rfl⟩ := ow_slice o9
  have LOOz1 := Lib.hid lo9; have NDOz1 := Lib.hid nd9; have HIOz1 := Lib.hid (boolsE.ow_lt o9)
  have Oz1 := o9
  clear o9 nd9 lo9
  go_wp2_with fail
  refine (readerOfShape_is rs a0 _ r1 u14.heap.size _ (Nat.le_refl _) h0 (boolsE.rd_ow Oz1) HRS.out).mono ?_
  rintro e u15 ⟨x9, fOh, rfl, o9, nd9, lo9, b⟩
  have z15 := b.size
  replace B := B.trans (b.mono B.size)
  replace W0 := W0.of b W0.lt
  replace G0 := G0.of b G0.lt
  replace Ow := readE.ow_of b Ow
  replace Og := readE.ow_of b Og
  replace Oz1 := boolsE.ow_of b Oz1
  clear b
  have o' := readE.rd_ow o9
  obtain ⟨hhv2, hhv3, rfl, -, -, hhh2, hhh3⟩ := rd_Reader o'
  obtain ⟨hha2, hhn2, hhc2, rfl⟩ := rd_slice hhh2
  obtain ⟨hha3, hhn3, hhc3, rfl⟩ := rd_slice hhh3
  clear o' hhh2 hhh3
  have LOOh := Lib.hid lo9; have NDOh := Lib.hid nd9; have HIOh := Lib.hid (readE.ow_lt o9)
  have Oh := o9
  clear o9 nd9 lo9
  have dW00 := fun o => (W0.alloc o).cell 0 rfl
  have dW01 := fun o => (W0.alloc o).cell 1 rfl
  have dW02 := fun o => (W0.alloc o).cell 2 rfl
  have dW03 := fun o => (W0.alloc o).cell 3 rfl
  go_wp2_with fail
  clear dW00 dW01 dW02 dW03
  generalize hW : u15.alloc _ = u16
  obtain ⟨qH0, b⟩ := blk1 hW
  clear hW
  have z16 := b.size
  replace B := B.trans (b.mono B.size)
  replace W0 := W0.of b W0.lt
  replace G0 := G0.of b G0.lt
  replace Ow := readE.ow_of b Ow
  replace Og := readE.ow_of b Og
  replace Oz1 := boolsE.ow_of b Oz1
  replace Oh := readE.ow_of b Oh
  have H0 := qH0; have lH0 := H0.lt; clear qH0 b
  clear Oz1 LOOz1 HIOz1 NDOz1
  refine (eqReader_is true _ _ rs.1 rs.1 _ _ _ (Nat.le_refl _) (Nat.le_refl _) (readE.rd_ow Oh) (readE.rd_ow Ow) (decide_eq_true rfl)).mono ?_
  rintro e u17 ⟨rfl, b⟩
  have z17 := b.size
  replace B := B.trans (b.mono B.size)
  replace W0 := W0.of b W0.lt
  replace G0 := G0.of b G0.lt
  replace H0 := H0.of b H0.lt
  replace Ow := readE.ow_of b Ow
  replace Og := readE.ow_of b Og
  replace Oh := readE.ow_of b Oh
  clear b
  have dG00 := G0.cell 0 rfl
  have dG01 := G0.cell 1 rfl
  have dG02 := G0.cell 2 rfl
  have dG03 := G0.cell 3 rfl
  go_wp2_with fail
  clear dG00 dG01 dG02 dG03
  refine (heldReader_any _ mr _ 1 _ (Nat.le_refl _) (readE.rd_ow Og) HM.out (by omega) (by have := HC.out; have := HCNT.out; omega)).mono ?_
  rintro e u18 ⟨rfl, b⟩
  have z18 := b.size
  replace B := B.trans (b.mono B.size)
  replace W0 := W0.of b W0.lt
  replace G0 := G0.of b G0.lt
  replace H0 := H0.of b H0.lt
  replace Ow := readE.ow_of b Ow
  replace Og := readE.ow_of b Og
  replace Oh := readE.ow_of b Oh
  clear b
  rw [show (1 : Int) + ((readM.cnt mr : Nat) : Int) = mm from by rw [HC.out, Hmm.out]]
  go_wp2
  go_ret
  exact ⟨rfl, B⟩

end Go.Proofs.Ytipandcflcidlaa
