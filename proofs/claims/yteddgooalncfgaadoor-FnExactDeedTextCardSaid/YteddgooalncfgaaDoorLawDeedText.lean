/-
  The law FnExactDeedText: whatever the input, it returns true and leaves what was there as it was (written by a program of this claim's own, gen_dec.py).
-/
import Derived.Test.YteddgooalncfgaaDoorDeedT
import Derived.Test.YteddgooalncfgaaDoorDeedI
namespace Go.Proofs.YteddgooalncfgaaDoor
open Go.RowKit

set_option maxHeartbeats 1000000 in
theorem lawDeedText_any (cs : List Value) (d : Deed) (m : Int) (w : World) (h : deedE.rd w w.heap.size cs d) (hM : MaxIs m w.heap.size w) (hT : Pow10 w.heap.size w) : Calls Tryd.prog 3 #[.agg cs.toArray] w (Gives (.bool true) w) := by
  obtain ⟨rfl, -, -, -⟩ := rd_Deed h
  clear h
  have HM := Lib.hid hM; have HT := Lib.hid hT
  clear hM hT
  go_enter Tryd.func3, Tryd.ntmps3
  go_wp2_with fail
  generalize hW : w.alloc _ = w0
  obtain ⟨A0, B0⟩ := blk1 hW
  clear hW
  refine (toDeed_any _ _ _ _).mono ?_
  rintro e w1 ⟨rfl, b1⟩
  have B1 := B0.trans (b1.mono B0.size)
  have A1 := A0.of b1 A0.lt
  clear b1 B0 A0
  go_wp2_with fail
  refine (specDeedText_any d _).mono ?_
  rintro e w2 ⟨rfl, b2⟩
  have B2 := B1.trans (b2.mono B1.size)
  have A2 := A1.of b2 A1.lt
  clear b2 B1 A1
  have d0 := A2.cell 0 rfl; have d1 := A2.cell 1 rfl; have d2 := A2.cell 2 rfl
  go_wp2_with fail
  refine (toDeed_any _ _ _ _).mono ?_
  rintro e w3 ⟨rfl, b3⟩
  have B3 := B2.trans (b3.mono B2.size)
  clear b3 B2 A2 d0 d1 d2
  go_wp2_with fail
  refine (implDeedText_any d m w3 ((HM.out.step B3).up B3.size) ((HT.out.step B3).up B3.size)).mono ?_
  rintro e w4 ⟨rfl, b4⟩
  have B4 := B3.trans (b4.mono B3.size)
  clear b4 B3
  generalize deedText d = bv
  go_wp2
  go_ret
  exact ⟨rfl, B4⟩

end Go.Proofs.YteddgooalncfgaaDoor
