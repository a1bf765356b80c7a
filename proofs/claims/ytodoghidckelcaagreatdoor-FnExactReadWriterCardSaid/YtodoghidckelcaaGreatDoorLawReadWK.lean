/-
  The law FnExactReadWriter: whatever the input, it returns true and leaves what was there as it was.
-/
import Derived.Test.YtodoghidckelcaaGreatDoorRwS5K
import Derived.Test.YtodoghidckelcaaGreatDoorMWriterK
import Derived.Test.YtodoghidckelcaaGreatDoorEWriterK
import Derived.Test.YtodoghidckelcaaGreatDoorTWriterK
import Derived.Test.YtodoghidckelcaaGreatDoorPackA
namespace Go.Proofs.YtodoghidckelcaaGreatDoor
open Go.RowKit

theorem cnt_readW (s : List UInt8) : writM.cnt (readW s).1 ≤ 4611686018427387000 := by
  unfold readW
  split
  · decide
  · split
    · decide
    · split
      · rename_i h
        have K := writOk_of h.1
        have h1 := sum_map_le movesM.cnt 10 (parseW s).turner.moves (fun x hx => by have := K.t.len hx; show 2 * x.length ≤ 10; omega)
        have h2 := sum_map_le strsM.cnt 5 (parseW s).out (fun x hx => by have := K.len hx; show x.length ≤ 5; omega)
        have h3 := K.t.n12
        have h4 := K.n
        show ((parseW s).turner.moves.map movesM.cnt).sum + ((parseW s).out.map strsM.cnt).sum ≤ _
        omega
      · decide

set_option maxHeartbeats 4000000 in
set_option maxRecDepth 100000 in
theorem lawReadWriter_any (t : ByteArray) (m : Int) (w : World) (hz : t.size ≤ maxLen) (hM : MaxIsT m w.heap.size w) (hT : Pow10 w.heap.size w) (h15 : ErrIs (Tryz.lays174_ren.g 15) w.heap.size w) (h16 : ErrIs (Tryz.lays174_ren.g 16) w.heap.size w) :
    Calls Tryz.prog 3 #[.string t] w (Gives (.bool true) w) := by
  clear hz
  by_cases hl : t.size ≤ 1048576
  case neg =>
    have t0 : (1048576 : Int) < (t.size : Int) := by omega
    clear hM hT h15 h16
    go_enter Tryz.func3, Tryz.ntmps3
    go_wp2
    go_ret
    exact ⟨rfl, Below.refl _ _⟩
  have t0 : ¬ (1048576 : Int) < (t.size : Int) := by omega
  have hs : t.data.toList.length ≤ 1048576 := by rw [Array.length_toList]; exact hl
  obtain ⟨rs, hrs⟩ : ∃ x, x = readW t.data.toList := ⟨_, rfl⟩
  have HCNT : Hid (writM.cnt rs.1 ≤ 4611686018427387000) := Lib.hid (by rw [hrs]; exact cnt_readW _)
  have HSP := Lib.hid (fun w' => show Calls Tryz.prog 4 #[.string t] w' (MakesC writE rs w') from by
    rw [hrs]; have h := specReadWriter_any t.data.toList w' hs; rwa [mkB_of] at h)
  have HIM := Lib.hid (fun w' (bl : Below w.heap.size w w') => show Calls Tryz.prog 5 #[.string t] w' (MakesC writE rs w') from by
    rw [hrs]; have h := readWriter_any t.data.toList m w' hs (hM.at bl) (h15.at bl) (h16.at bl) ((hT.step bl).up bl.size); rwa [mkB_of] at h)
  clear hrs hs hl hM hT h15 h16
  go_enter Tryz.func3, Tryz.ntmps3
  have B : Below w.heap.size w w := Below.refl _ _
  go_wp2_with fail
  -- the reference
  refine (HSP.out _).mono ?_
  rintro e u1 ⟨x9, fOw, rfl, o9, nd9, lo9, b⟩
  have z1 := b.size
  replace B := B.trans (b.mono B.size)
  clear b
  have o' := writE.rd_ow o9
  obtain ⟨wwv2, wwv3, rfl, -, -, wwh2, wwh3⟩ := rd_WriterF o'
  obtain ⟨wwa2, wwn2, wwc2, rfl⟩ := rd_slice wwh2
  obtain ⟨wwa3, wwn3, wwc3, rfl⟩ := rd_slice wwh3
  clear o' wwh2 wwh3
  have LOOw := Lib.hid lo9; have NDOw := Lib.hid nd9; have HIOw := Lib.hid (writE.ow_lt o9)
  have Ow := o9
  clear o9 nd9 lo9
  go_wp2_with fail
  generalize hW : u1.alloc _ = u2
  obtain ⟨qW0, b⟩ := blk1 hW
  clear hW
  have z2 := b.size
  replace B := B.trans (b.mono B.size)
  replace Ow := writE.ow_of b Ow
  have W0 := qW0; have lW0 := W0.lt; clear qW0 b
  -- the program
  refine (HIM.out _ B).mono ?_
  rintro e u3 ⟨x9, fOg, rfl, o9, nd9, lo9, b⟩
  have z3 := b.size
  replace B := B.trans (b.mono B.size)
  replace W0 := W0.of b W0.lt
  replace Ow := writE.ow_of b Ow
  clear b
  have o' := writE.rd_ow o9
  obtain ⟨ggv2, ggv3, rfl, -, -, ggh2, ggh3⟩ := rd_WriterF o'
  obtain ⟨gga2, ggn2, ggc2, rfl⟩ := rd_slice ggh2
  obtain ⟨gga3, ggn3, ggc3, rfl⟩ := rd_slice ggh3
  clear o' ggh2 ggh3
  have LOOg := Lib.hid lo9; have NDOg := Lib.hid nd9; have HIOg := Lib.hid (writE.ow_lt o9)
  have Og := o9
  clear o9 nd9 lo9
  have dW00 := fun o => (W0.alloc o).cell 0 rfl
  have dW01 := fun o => (W0.alloc o).cell 1 rfl
  have dW02 := fun o => (W0.alloc o).cell 2 rfl
  have dW03 := fun o => (W0.alloc o).cell 3 rfl
  go_wp2_with fail
  clear dW00 dW01 dW02 dW03
  generalize hW : u3.alloc _ = u4
  obtain ⟨qG0, b⟩ := blk1 hW
  clear hW
  have z4 := b.size
  replace B := B.trans (b.mono B.size)
  replace W0 := W0.of b W0.lt
  replace Ow := writE.ow_of b Ow
  replace Og := writE.ow_of b Og
  have G0 := qG0; have lG0 := G0.lt; clear qG0 b
  refine (eqWriter_is true _ _ rs.1 rs.1 _ _ _ (Nat.le_refl _) (Nat.le_refl _) (writE.rd_ow Og) (writE.rd_ow Ow) (decide_eq_true rfl)).mono ?_
  rintro e u5 ⟨rfl, b⟩
  have z5 := b.size
  replace B := B.trans (b.mono B.size)
  replace W0 := W0.of b W0.lt
  replace G0 := G0.of b G0.lt
  replace Ow := writE.ow_of b Ow
  replace Og := writE.ow_of b Og
  clear b
  -- marks on the result
  have dG00 := G0.cell 0 rfl
  have dG01 := G0.cell 1 rfl
  have dG02 := G0.cell 2 rfl
  have dG03 := G0.cell 3 rfl
  go_wp2_with fail
  clear dG00 dG01 dG02 dG03
  refine (markWriter_any _ rs.1 fOg 1 _ Og NDOg.out (by omega) (by have := HCNT.out; omega)).mono ?_
  rintro e u6 ⟨mr, rfl, om, hm9, hc9, bt⟩
  have z6 := bt.size
  replace B := B.trans (bt.below (fun b hb => by have := LOOg.out b hb; omega) B.size)
  replace W0 := W0.but bt (fun hb => by have := LOOg.out _ hb; have := HIOg.out _ hb; omega)
  replace G0 := G0.but bt (fun hb => by have := LOOg.out _ hb; have := HIOg.out _ hb; omega)
  replace Ow := writE.ow_but Ow bt (fun b hb hq => by have := LOOw.out b hb; have := HIOw.out b hb; have := LOOg.out b hq; have := HIOg.out b hq; omega)
  replace Og := om
  clear om bt
  have HM := Lib.hid hm9; have HC := Lib.hid hc9; clear hm9 hc9
  obtain ⟨mm, hk9⟩ : ∃ q : Int, q = 1 + ((writM.cnt rs.1 : Nat) : Int) := ⟨_, rfl⟩
  rw [← hk9]
  have hnmm : ¬ mm < 0 := by omega
  have gemm : 0 ≤ mm := by omega
  have Hmm := Lib.hid hk9; clear hk9
  have dG00 := G0.cell 0 rfl
  have dG01 := G0.cell 1 rfl
  have dG02 := G0.cell 2 rfl
  have dG03 := G0.cell 3 rfl
  go_wp2_with fail
  clear dG00 dG01 dG02 dG03
  refine (heldWriter_any _ mr _ 1 _ (Nat.le_refl _) (writE.rd_ow Og) HM.out (by omega) (by have := HC.out; have := HCNT.out; omega)).mono ?_
  rintro e u7 ⟨rfl, b⟩
  have z7 := b.size
  replace B := B.trans (b.mono B.size)
  replace W0 := W0.of b W0.lt
  replace G0 := G0.of b G0.lt
  replace Ow := writE.ow_of b Ow
  replace Og := writE.ow_of b Og
  clear b
  rw [show (1 : Int) + ((writM.cnt mr : Nat) : Int) = mm from by rw [HC.out, Hmm.out]]
  -- once more
  go_wp2_with fail
  refine (HIM.out _ B).mono ?_
  rintro e u8 ⟨x9, fOh, rfl, o9, nd9, lo9, b⟩
  have z8 := b.size
  replace B := B.trans (b.mono B.size)
  replace W0 := W0.of b W0.lt
  replace G0 := G0.of b G0.lt
  replace Ow := writE.ow_of b Ow
  replace Og := writE.ow_of b Og
  clear b
  have o' := writE.rd_ow o9
  obtain ⟨hhv2, hhv3, rfl, -, -, hhh2, hhh3⟩ := rd_WriterF o'
  obtain ⟨hha2, hhn2, hhc2, rfl⟩ := rd_slice hhh2
  obtain ⟨hha3, hhn3, hhc3, rfl⟩ := rd_slice hhh3
  clear o' hhh2 hhh3
  have LOOh := Lib.hid lo9; have NDOh := Lib.hid nd9; have HIOh := Lib.hid (writE.ow_lt o9)
  have Oh := o9
  clear o9 nd9 lo9
  have dW00 := fun o => (W0.alloc o).cell 0 rfl
  have dW01 := fun o => (W0.alloc o).cell 1 rfl
  have dW02 := fun o => (W0.alloc o).cell 2 rfl
  have dW03 := fun o => (W0.alloc o).cell 3 rfl
  go_wp2_with fail
  clear dW00 dW01 dW02 dW03
  generalize hW : u8.alloc _ = u9
  obtain ⟨qH0, b⟩ := blk1 hW
  clear hW
  have z9 := b.size
  replace B := B.trans (b.mono B.size)
  replace W0 := W0.of b W0.lt
  replace G0 := G0.of b G0.lt
  replace Ow := writE.ow_of b Ow
  replace Og := writE.ow_of b Og
  replace Oh := writE.ow_of b Oh
  have H0 := qH0; have lH0 := H0.lt; clear qH0 b
  refine (eqWriter_is true _ _ rs.1 rs.1 _ _ _ (Nat.le_refl _) (Nat.le_refl _) (writE.rd_ow Oh) (writE.rd_ow Ow) (decide_eq_true rfl)).mono ?_
  rintro e u10 ⟨rfl, b⟩
  have z10 := b.size
  replace B := B.trans (b.mono B.size)
  replace W0 := W0.of b W0.lt
  replace G0 := G0.of b G0.lt
  replace H0 := H0.of b H0.lt
  replace Ow := writE.ow_of b Ow
  replace Og := writE.ow_of b Og
  replace Oh := writE.ow_of b Oh
  clear b
  have dG00 := G0.cell 0 rfl
  have dG01 := G0.cell 1 rfl
  have dG02 := G0.cell 2 rfl
  have dG03 := G0.cell 3 rfl
  go_wp2_with fail
  clear dG00 dG01 dG02 dG03
  refine (heldWriter_any _ mr _ 1 _ (Nat.le_refl _) (writE.rd_ow Og) HM.out (by omega) (by have := HC.out; have := HCNT.out; omega)).mono ?_
  rintro e u11 ⟨rfl, b⟩
  have z11 := b.size
  replace B := B.trans (b.mono B.size)
  replace W0 := W0.of b W0.lt
  replace G0 := G0.of b G0.lt
  replace H0 := H0.of b H0.lt
  replace Ow := writE.ow_of b Ow
  replace Og := writE.ow_of b Og
  replace Oh := writE.ow_of b Oh
  clear b
  rw [show (1 : Int) + ((writM.cnt mr : Nat) : Int) = mm from by rw [HC.out, Hmm.out]]
  go_wp2
  go_ret
  exact ⟨rfl, B⟩

end Go.Proofs.YtodoghidckelcaaGreatDoor
