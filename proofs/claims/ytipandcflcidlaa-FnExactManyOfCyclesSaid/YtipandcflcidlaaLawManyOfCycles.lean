/-
  The law FnExactManyOfCycles: whatever the input, it returns true and leaves what was there as it was (written by a program of this claim's own, gen_res.py).
-/
import Derived.Test.YtipandcflcidlaaMoc
import Derived.Test.YtipandcflcidlaaSpecMoc
import Derived.Test.YtipandcflcidlaaMMany
import Derived.Test.YtipandcflcidlaaEMany
import Derived.Test.YtipandcflcidlaaLBoolSS
import Derived.Test.YtipandcflcidlaaMBoolSS
import Derived.Test.YtipandcflcidlaaCntBools
import Derived.Test.YtipandcflcidlaaOver
namespace Go.Proofs.Ytipandcflcidlaa
open Go.RowKit

set_option maxHeartbeats 4000000 in
set_option maxRecDepth 100000 in
theorem lawManyOfCycles_any (c0 : Value) (r0 : List (List Bool)) (w : World) (h0 : boolssE.rd w w.heap.size [c0] r0) :
    Calls Try.prog 5 #[c0] w (Gives (.bool true) w) := by
  have R0 := Lib.hid h0
  obtain ⟨pa0, pc0, he0, -, -, -⟩ := h0
  obtain rfl : c0 = .slice pa0 r0.length pc0 := by simpa using he0
  clear he0
  have hlen0 := len_le R0.out
  obtain ⟨t0, ht⟩ : ∃ t : Nat, t = r0.length + sumLen r0 := ⟨_, rfl⟩
  have HT0 := Lib.hid ht; clear ht
  obtain ⟨rs, hrs⟩ : ∃ x, x = manyOfCycles r0 := ⟨_, rfl⟩
  have HRS : Hid (manyOfCycles r0 = rs) := Lib.hid hrs.symm
  have HCNT : Hid (manyM.cnt rs.1 ≤ 4611686018427387000) := Lib.hid (by rw [hrs]; exact cnt_manyOfCycles _)
  clear hrs
  go_enter Try.func5, Try.ntmps5
  have B : Below w.heap.size w w := Below.refl _ _
  go_wp2_with fail
  refine (szBoolSS_any _ r0 w.heap.size _ _ B.size (boolssE.rd_of B R0.out) (by omega) (by omega)).mono ?_
  rintro e u1 ⟨rfl, b⟩
  have z1 := b.size
  replace B := B.trans (b.mono B.size)
  clear b
  by_cases hbig0 : (1048576 : Int) < t0
  case pos =>
    rw [lim_of_lt (by rw [← HT0.out]; omega)]
    go_wp2
    go_ret
    exact ⟨rfl, B⟩
  rw [lim_of_ge (by rw [← HT0.out]; omega), ← HT0.out]
  obtain ⟨q0, hq0⟩ : ∃ q : Int, q = 1048576 - (t0 : Int) := ⟨_, rfl⟩
  rw [← hq0]
  have hn0 : ¬ q0 < 0 := by omega
  have g0a : 0 ≤ q0 := by omega
  have g0b : q0 ≤ 1048576 := by omega
  have HQ0 := Lib.hid hq0; clear hq0
  go_wp2_with fail
  have ht0 : t0 ≤ 1048576 := by have := HQ0.out; omega
  have hok0 := Lib.hid (sizes_of_tot (l := r0) (by rw [← HT0.out]; exact ht0))
  clear hn0 hbig0
  -- the reference
  refine (toBoolSS_any _ r0 w.heap.size _ B.size (boolssE.rd_of B R0.out) hok0.out.1 hok0.out.2).mono ?_
  rintro e u2 ⟨x9, fOs0, rfl, o9, nd9, lo9, b⟩
  have z2 := b.size
  replace B := B.trans (b.mono B.size)
  clear b
  obtain ⟨y0a, y0n, y0c, rfl⟩ := ow_slice o9
  have LOOs0 := Lib.hid lo9; have NDOs0 := Lib.hid nd9; have HIOs0 := Lib.hid (boolssE.ow_lt o9)
  have Os0 := o9
  clear o9 nd9 lo9
  go_wp2_with fail
  refine (specManyOfCycles_is rs _ r0 u2.heap.size _ (Nat.le_refl _) (boolssE.rd_ow Os0) HRS.out).mono ?_
  rintro e u3 ⟨x9, fOw, rfl, o9, nd9, lo9, b⟩
  have z3 := b.size
  replace B := B.trans (b.mono B.size)
  replace Os0 := boolssE.ow_of b Os0
  clear b
  have o' := manyE.rd_ow o9
  obtain ⟨wwv1, wwv2, wwv3, rfl, -, wwh1, wwh2, wwh3⟩ := rd_Many o'
  obtain ⟨wwa1, wwn1, wwc1, rfl⟩ := rd_slice wwh1
  obtain ⟨wwa2, wwn2, wwc2, rfl⟩ := rd_slice wwh2
  obtain ⟨wwa3, wwn3, wwc3, rfl⟩ := rd_slice wwh3
  clear o' wwh1 wwh2 wwh3
  have LOOw := Lib.hid lo9; have NDOw := Lib.hid nd9; have HIOw := Lib.hid (manyE.ow_lt o9)
  have Ow := o9
  clear o9 nd9 lo9
  go_wp2_with fail
  generalize hW : u3.alloc _ = u4
  obtain ⟨qW0, b⟩ := blk1 hW
  clear hW
  have z4 := b.size
  replace B := B.trans (b.mono B.size)
  replace Os0 := boolssE.ow_of b Os0
  replace Ow := manyE.ow_of b Ow
  have W0 := qW0; have lW0 := W0.lt; clear qW0 b
  clear Os0 LOOs0 HIOs0 NDOs0
  -- the program
  refine (toBoolSS_any _ r0 w.heap.size _ B.size (boolssE.rd_of B R0.out) hok0.out.1 hok0.out.2).mono ?_
  rintro e u5 ⟨x9, fOx0, rfl, o9, nd9, lo9, b⟩
  have z5 := b.size
  replace B := B.trans (b.mono B.size)
  replace W0 := W0.of b W0.lt
  replace Ow := manyE.ow_of b Ow
  clear b
  obtain ⟨x0a, x0n, x0c, rfl⟩ := ow_slice o9
  have LOOx0 := Lib.hid lo9; have NDOx0 := Lib.hid nd9; have HIOx0 := Lib.hid (boolssE.ow_lt o9)
  have Ox0 := o9
  clear o9 nd9 lo9
  go_wp2_with fail
  refine (manyOfCycles_is rs _ r0 u5.heap.size _ (Nat.le_refl _) (boolssE.rd_ow Ox0) HRS.out).mono ?_
  rintro e u6 ⟨x9, fOg, rfl, o9, nd9, lo9, b⟩
  have z6 := b.size
  replace B := B.trans (b.mono B.size)
  replace W0 := W0.of b W0.lt
  replace Ow := manyE.ow_of b Ow
  replace Ox0 := boolssE.ow_of b Ox0
  clear b
  have o' := manyE.rd_ow o9
  obtain ⟨ggv1, ggv2, ggv3, rfl, -, ggh1, ggh2, ggh3⟩ := rd_Many o'
  obtain ⟨gga1, ggn1, ggc1, rfl⟩ := rd_slice ggh1
  obtain ⟨gga2, ggn2, ggc2, rfl⟩ := rd_slice ggh2
  obtain ⟨gga3, ggn3, ggc3, rfl⟩ := rd_slice ggh3
  clear o' ggh1 ggh2 ggh3
  have LOOg := Lib.hid lo9; have NDOg := Lib.hid nd9; have HIOg := Lib.hid (manyE.ow_lt o9)
  have Og := o9
  clear o9 nd9 lo9
  have dW00 := fun o => (W0.alloc o).cell 0 rfl
  have dW01 := fun o => (W0.alloc o).cell 1 rfl
  have dW02 := fun o => (W0.alloc o).cell 2 rfl
  have dW03 := fun o => (W0.alloc o).cell 3 rfl
  go_wp2_with fail
  clear dW00 dW01 dW02 dW03
  generalize hW : u6.alloc _ = u7
  obtain ⟨qG0, b⟩ := blk1 hW
  clear hW
  have z7 := b.size
  replace B := B.trans (b.mono B.size)
  replace W0 := W0.of b W0.lt
  replace Ow := manyE.ow_of b Ow
  replace Ox0 := boolssE.ow_of b Ox0
  replace Og := manyE.ow_of b Og
  have G0 := qG0; have lG0 := G0.lt; clear qG0 b
  refine (eqMany_is true _ _ rs.1 rs.1 _ _ _ (Nat.le_refl _) (Nat.le_refl _) (manyE.rd_ow Og) (manyE.rd_ow Ow) (decide_eq_true rfl)).mono ?_
  rintro e u8 ⟨rfl, b⟩
  have z8 := b.size
  replace B := B.trans (b.mono B.size)
  replace W0 := W0.of b W0.lt
  replace G0 := G0.of b G0.lt
  replace Ow := manyE.ow_of b Ow
  replace Ox0 := boolssE.ow_of b Ox0
  replace Og := manyE.ow_of b Og
  clear b
  -- an argument as before
  go_wp2_with fail
  refine (toBoolSS_any _ r0 w.heap.size _ B.size (boolssE.rd_of B R0.out) hok0.out.1 hok0.out.2).mono ?_
  rintro e u9 ⟨x9, fOy0, rfl, o9, nd9, lo9, b⟩
  have z9 := b.size
  replace B := B.trans (b.mono B.size)
  replace W0 := W0.of b W0.lt
  replace G0 := G0.of b G0.lt
  replace Ow := manyE.ow_of b Ow
  replace Ox0 := boolssE.ow_of b Ox0
  replace Og := manyE.ow_of b Og
  clear b
  obtain ⟨yy0a, yy0n, yy0c, rfl⟩ := ow_slice o9
  have LOOy0 := Lib.hid lo9; have NDOy0 := Lib.hid nd9; have HIOy0 := Lib.hid (boolssE.ow_lt o9)
  have Oy0 := o9
  clear o9 nd9 lo9
  go_wp2_with fail
  refine (eqBoolSS_is true _ _ r0 r0 _ _ _ (Nat.le_refl _) (Nat.le_refl _) (decide_eq_true rfl) (boolssE.rd_ow Ox0) (boolssE.rd_ow Oy0)).mono ?_
  rintro e u10 ⟨rfl, b⟩
  have z10 := b.size
  replace B := B.trans (b.mono B.size)
  replace W0 := W0.of b W0.lt
  replace G0 := G0.of b G0.lt
  replace Ow := manyE.ow_of b Ow
  replace Ox0 := boolssE.ow_of b Ox0
  replace Og := manyE.ow_of b Og
  replace Oy0 := boolssE.ow_of b Oy0
  clear b
  clear Oy0 LOOy0 HIOy0 NDOy0
  -- marks on an argument
  go_wp2_with fail
  have HC0 : Hid ((listM boolsM).cnt r0 ≤ 10000000) := Lib.hid (by have := HT0.out; have := cntL_bools r0; show cntL boolsM r0 ≤ _; omega)
  refine (markBoolSS_any _ r0 fOx0 _ _ Ox0 NDOx0.out (by omega) (by have h9 : cntL boolsM r0 ≤ 10000000 := HC0.out; omega)).mono ?_
  rintro e u11 ⟨x9, rfl, om, -, -, bt⟩
  have z11 := bt.size
  replace B := B.trans (bt.below (fun b hb => by have := LOOx0.out b hb; omega) B.size)
  replace W0 := W0.but bt (fun hb => by have := LOOx0.out _ hb; have := HIOx0.out _ hb; omega)
  replace G0 := G0.but bt (fun hb => by have := LOOx0.out _ hb; have := HIOx0.out _ hb; omega)
  replace Ow := manyE.ow_but Ow bt (fun b hb hq => by have := LOOw.out b hb; have := HIOw.out b hb; have := LOOx0.out b hq; have := HIOx0.out b hq; omega)
  replace Og := manyE.ow_but Og bt (fun b hb hq => by have := LOOg.out b hb; have := HIOg.out b hb; have := LOOx0.out b hq; have := HIOx0.out b hq; omega)
  clear bt om x9
  clear Ox0 LOOx0 HIOx0 NDOx0
  obtain ⟨kk0, hk9⟩ : ∃ q : Int, q = 1 + (((listM boolsM).cnt r0 : Nat) : Int) := ⟨_, rfl⟩
  rw [← hk9]
  have hnkk0 : ¬ kk0 < 0 := by omega
  have gekk0 : 0 ≤ kk0 := by omega
  have Hkk0 := Lib.hid hk9; clear hk9
  have gbkk0 : kk0 ≤ 20000000 := by have := Hkk0.out; have := HC0.out; omega
  have dG00 := G0.cell 0 rfl
  have dG01 := G0.cell 1 rfl
  have dG02 := G0.cell 2 rfl
  have dG03 := G0.cell 3 rfl
  have dW00 := W0.cell 0 rfl
  have dW01 := W0.cell 1 rfl
  have dW02 := W0.cell 2 rfl
  have dW03 := W0.cell 3 rfl
  go_wp2_with fail
  clear dG00 dG01 dG02 dG03 dW00 dW01 dW02 dW03
  refine (eqMany_is true _ _ rs.1 rs.1 _ _ _ (Nat.le_refl _) (Nat.le_refl _) (manyE.rd_ow Og) (manyE.rd_ow Ow) (decide_eq_true rfl)).mono ?_
  rintro e u12 ⟨rfl, b⟩
  have z12 := b.size
  replace B := B.trans (b.mono B.size)
  replace W0 := W0.of b W0.lt
  replace G0 := G0.of b G0.lt
  replace Ow := manyE.ow_of b Ow
  replace Og := manyE.ow_of b Og
  clear b
  -- marks on the result
  have dG00 := G0.cell 0 rfl
  have dG01 := G0.cell 1 rfl
  have dG02 := G0.cell 2 rfl
  have dG03 := G0.cell 3 rfl
  go_wp2_with fail
  clear dG00 dG01 dG02 dG03
  refine (markMany_any _ rs.1 fOg 1 _ Og NDOg.out (by omega) (by have := HCNT.out; omega)).mono ?_
  rintro e u13 ⟨mr, rfl, om, hm9, hc9, bt⟩
  have z13 := bt.size
  replace B := B.trans (bt.below (fun b hb => by have := LOOg.out b hb; omega) B.size)
  replace W0 := W0.but bt (fun hb => by have := LOOg.out _ hb; have := HIOg.out _ hb; omega)
  replace G0 := G0.but bt (fun hb => by have := LOOg.out _ hb; have := HIOg.out _ hb; omega)
  replace Ow := manyE.ow_but Ow bt (fun b hb hq => by have := LOOw.out b hb; have := HIOw.out b hb; have := LOOg.out b hq; have := HIOg.out b hq; omega)
  replace Og := om
  clear om bt
  have HM := Lib.hid hm9; have HC := Lib.hid hc9; clear hm9 hc9
  obtain ⟨mm, hk9⟩ : ∃ q : Int, q = 1 + ((manyM.cnt rs.1 : Nat) : Int) := ⟨_, rfl⟩
  rw [← hk9]
  have hnmm : ¬ mm < 0 := by omega
  have gemm : 0 ≤ mm := by omega
  have Hmm := Lib.hid hk9; clear hk9
  have dG00 := G0.cell 0 rfl
  have dG01 := G0.cell 1 rfl
  have dG02 := G0.cell 2 rfl
  have dG03 := G0.cell 3 rfl
  go_wp2_with fail
  clear dG00 dG01 dG02 dG03
  refine (heldMany_any _ mr _ 1 _ (Nat.le_refl _) (manyE.rd_ow Og) HM.out (by omega) (by have := HC.out; have := HCNT.out; omega)).mono ?_
  rintro e u14 ⟨rfl, b⟩
  have z14 := b.size
  replace B := B.trans (b.mono B.size)
  replace W0 := W0.of b W0.lt
  replace G0 := G0.of b G0.lt
  replace Ow := manyE.ow_of b Ow
  replace Og := manyE.ow_of b Og
  clear b
  rw [show (1 : Int) + ((manyM.cnt mr : Nat) : Int) = mm from by rw [HC.out, Hmm.out]]
  -- once more
  go_wp2_with fail
  refine (toBoolSS_any _ r0 w.heap.size _ B.size (boolssE.rd_of B R0.out) hok0.out.1 hok0.out.2).mono ?_
  rintro e u15 ⟨x9, fOz0, rfl, o9, nd9, lo9, b⟩
  have z15 := b.size
  replace B := B.trans (b.mono B.size)
  replace W0 := W0.of b W0.lt
  replace G0 := G0.of b G0.lt
  replace Ow := manyE.ow_of b Ow
  replace Og := manyE.ow_of b Og
  clear b
  obtain ⟨zz0a, zz0n, zz0c, rfl⟩ := ow_slice o9
  have LOOz0 := Lib.hid lo9; have NDOz0 := Lib.hid nd9; have HIOz0 := Lib.hid (boolssE.ow_lt o9)
  have Oz0 := o9
  clear o9 nd9 lo9
  go_wp2_with fail
  refine (manyOfCycles_is rs _ r0 u15.heap.size _ (Nat.le_refl _) (boolssE.rd_ow Oz0) HRS.out).mono ?_
  rintro e u16 ⟨x9, fOh, rfl, o9, nd9, lo9, b⟩
  have z16 := b.size
  replace B := B.trans (b.mono B.size)
  replace W0 := W0.of b W0.lt
  replace G0 := G0.of b G0.lt
  replace Ow := manyE.ow_of b Ow
  replace Og := manyE.ow_of b Og
  replace Oz0 := boolssE.ow_of b Oz0
  clear b
  have o' := manyE.rd_ow o9
  obtain ⟨hhv1, hhv2, hhv3, rfl, -, hhh1, hhh2, hhh3⟩ := rd_Many o'
  obtain ⟨hha1, hhn1, hhc1, rfl⟩ := rd_slice hhh1
  obtain ⟨hha2, hhn2, hhc2, rfl⟩ := rd_slice hhh2
  obtain ⟨hha3, hhn3, hhc3, rfl⟩ := rd_slice hhh3
  clear o' hhh1 hhh2 hhh3
  have LOOh := Lib.hid lo9; have NDOh := Lib.hid nd9; have HIOh := Lib.hid (manyE.ow_lt o9)
  have Oh := o9
  clear o9 nd9 lo9
  have dW00 := fun o => (W0.alloc o).cell 0 rfl
  have dW01 := fun o => (W0.alloc o).cell 1 rfl
  have dW02 := fun o => (W0.alloc o).cell 2 rfl
  have dW03 := fun o => (W0.alloc o).cell 3 rfl
  go_wp2_with fail
  clear dW00 dW01 dW02 dW03
  generalize hW : u16.alloc _ = u17
  obtain ⟨qH0, b⟩ := blk1 hW
  clear hW
  have z17 := b.size
  replace B := B.trans (b.mono B.size)
  replace W0 := W0.of b W0.lt
  replace G0 := G0.of b G0.lt
  replace Ow := manyE.ow_of b Ow
  replace Og := manyE.ow_of b Og
  replace Oz0 := boolssE.ow_of b Oz0
  replace Oh := manyE.ow_of b Oh
  have H0 := qH0; have lH0 := H0.lt; clear qH0 b
  clear Oz0 LOOz0 HIOz0 NDOz0
  refine (eqMany_is true _ _ rs.1 rs.1 _ _ _ (Nat.le_refl _) (Nat.le_refl _) (manyE.rd_ow Oh) (manyE.rd_ow Ow) (decide_eq_true rfl)).mono ?_
  rintro e u18 ⟨rfl, b⟩
  have z18 := b.size
  replace B := B.trans (b.mono B.size)
  replace W0 := W0.of b W0.lt
  replace G0 := G0.of b G0.lt
  replace H0 := H0.of b H0.lt
  replace Ow := manyE.ow_of b Ow
  replace Og := manyE.ow_of b Og
  replace Oh := manyE.ow_of b Oh
  clear b
  have dG00 := G0.cell 0 rfl
  have dG01 := G0.cell 1 rfl
  have dG02 := G0.cell 2 rfl
  have dG03 := G0.cell 3 rfl
  go_wp2_with fail
  clear dG00 dG01 dG02 dG03
  refine (heldMany_any _ mr _ 1 _ (Nat.le_refl _) (manyE.rd_ow Og) HM.out (by omega) (by have := HC.out; have := HCNT.out; omega)).mono ?_
  rintro e u19 ⟨rfl, b⟩
  have z19 := b.size
  replace B := B.trans (b.mono B.size)
  replace W0 := W0.of b W0.lt
  replace G0 := G0.of b G0.lt
  replace H0 := H0.of b H0.lt
  replace Ow := manyE.ow_of b Ow
  replace Og := manyE.ow_of b Og
  replace Oh := manyE.ow_of b Oh
  clear b
  rw [show (1 : Int) + ((manyM.cnt mr : Nat) : Int) = mm from by rw [HC.out, Hmm.out]]
  go_wp2
  go_ret
  exact ⟨rfl, B⟩

end Go.Proofs.Ytipandcflcidlaa
