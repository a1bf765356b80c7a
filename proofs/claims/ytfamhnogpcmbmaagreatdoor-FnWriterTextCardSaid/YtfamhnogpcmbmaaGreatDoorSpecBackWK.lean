/-
  BackWriter of the reference, its main function (written by a program of this claim's own, gen_back.py).
-/
import Derived.Test.YtfamhnogpcmbmaaGreatDoorSpecBackK
namespace Go.Proofs.YtfamhnogpcmbmaaGreatDoor
open Go.RowKit

set_option maxHeartbeats 4000000 in
set_option maxRecDepth 100000 in
theorem specBackWriter_is (x : Writer × Int) (letters : Int) (w : World) (hl : -9223372036854775808 ≤ letters ∧ letters ≤ 9223372036854775807) (hx : backWriter letters = x) :
    Calls Tryz.prog 43 #[.int .i64 letters] w (MakesC writE x w) := by
  have HX := Lib.hid hx
  clear hx
  go_enter Tryz.func43, Tryz.ntmps43
  go_wp2_with fail
  have S := (Star.nil w).alloc (cs := #[.int .i64 0, .int .i64 0, .slice none 0 0, .slice none 0 0]) (ty := 29)
  generalize hW : w.alloc _ = w0 at S ⊢
  clear hW
  refine (l00In_k _ _ _ _).mono ?_
  rintro e w1 ⟨rfl, rfl⟩
  generalize hw1 : w0 = w1 at S ⊢
  clear hw1
  cases h1 : within letters 1 3
  case false =>
    have A0 := S.blk 0 rfl
    have c0 := A0.cell 0 rfl
    have c1 := A0.cell 1 rfl
    have c2 := A0.cell 2 rfl
    have c3 := A0.cell 3 rfl
    have f0 := A0.free
    go_wp2
    generalize hW : (((w1.setCell _ _).setCell _ _).setCell _ _).setCell _ _ = w3
    replace S := S.set4 rfl hW
    have A3 := S.blk 0 rfl
    have q0 := A3.cell 0 rfl
    have q1 := A3.cell 1 rfl
    have q2 := A3.cell 2 rfl
    have q3 := A3.cell 3 rfl
    obtain rfl : x = (default, 2) := by rw [← HX.out]; unfold backWriter; rw [h1]; rfl
    exact bodyPost_ret (v := .tuple #[.agg #[.int .i64 0, .int .i64 0, .slice none 0 0, .slice none 0 0], .int .i64 2]) (by simp [results, Tryz.results43, go_sem, q0, q1, q2, q3]) rfl (S.flat (ow_Writer_zero _)).done
  have hb := within_true.1 h1
  obtain ⟨L, rfl⟩ : ∃ L : Nat, letters = L := ⟨letters.toNat, by omega⟩
  have HX : Hid (x = (⟨⟨L, 0, [back0 L, back1 L]⟩, [noStr L, allStr L]⟩, 0)) := Lib.hid (by rw [← HX.out]; unfold backWriter; rw [h1]; rfl)
  have hL : L ≤ 3 := by omega
  have hL1 : 1 ≤ L := by omega
  clear h1 hb hl
  replace S := S.alloc (cs := #[.int .i64 L, .int .i64 0, .slice none 0 0, .slice none 0 0]) (ty := 29)
  go_wp2_with fail
  generalize hW : w1.alloc _ = w2 at S ⊢
  clear hW
  obtain ⟨g, hg⟩ : ∃ g, g = w1.heap.size := ⟨_, rfl⟩
  rw [← hg] at S ⊢
  clear hg
  refine (pass0 L hL w2).mono ?_
  rintro e w3 ⟨v1, v2, f2, rfl, o2, nd2, lo2, b2⟩
  have S1 := (S.made o2 nd2 lo2 b2).unpair rfl
  obtain ⟨aa, an, ac, rfl⟩ := S1.slc 0 rfl
  obtain ⟨ba, bn, bc, rfl⟩ := S1.slc 1 rfl
  clear S o2 nd2 lo2 b2
  go_wp2_with fail
  refine (pass1 L hL w3).mono ?_
  rintro e w4 ⟨v1, v2, f2, rfl, o2, nd2, lo2, b2⟩
  have S2 := (S1.made o2 nd2 lo2 b2).unpair rfl
  obtain ⟨ca, cn, cc, rfl⟩ := S2.slc 0 rfl
  obtain ⟨da, dn, dc, rfl⟩ := S2.slc 1 rfl
  clear S1 o2 nd2 lo2 b2
  have X0 := S2.blk 4 rfl
  have x2a := fun o => cell_al (X0.cell 2 rfl) o
  have x2 := X0.cell 2 rfl
  have fxa := fun o i => (X0.alloc o).free i
  have fx := X0.free
  go_upto_region 7 with fail
  generalize hW : (w4.alloc _).setCell _ _ = w5
  have S3 := ((((S2.alloc (cs := #[.slice aa an ac, .slice ca cn cc]) (ty := 60)).sel [0, 3, 1, 5, 2, 4, 6]).lit2 rfl).sel [1, 0, 3, 2, 4]).set 2 (.slice (some ⟨w4.heap.size, 0, none⟩) 2 2)
  rw [hW] at S3
  clear hW X0 x2 x2a fx fxa S2
  have X0 := S3.blk 0 rfl
  have x3a := fun o => cell_al (X0.cell 3 rfl) o
  have x3 := X0.cell 3 rfl
  have fxa := fun o i => (X0.alloc o).free i
  have fx := X0.free
  go_upto_region 8 with fail
  generalize hW : (w5.alloc _).setCell _ _ = w6
  have S4 := ((((S3.alloc (cs := #[.slice ba bn bc, .slice da dn dc]) (ty := 50)).sel [0, 3, 4, 1, 2, 5]).lit2 rfl).sel [1, 0, 2, 3]).set 3 (.slice (some ⟨w5.heap.size, 0, none⟩) 2 2)
  rw [hW] at S4
  clear hW X0 x3 x3a fx fxa S3
  have X0 := S4.blk 0 rfl
  have y0 := X0.cell 0 rfl
  have y1 := X0.cell 1 rfl
  have y2 := X0.cell 2 rfl
  have y3 := X0.cell 3 rfl
  have R0 := S4.blk 3 rfl
  have c0 := R0.cell 0 rfl
  have c1 := R0.cell 1 rfl
  have c2 := R0.cell 2 rfl
  have c3 := R0.cell 3 rfl
  have ff := R0.free
  go_wp2
  generalize hW : (((w6.setCell _ _).setCell _ _).setCell _ _).setCell _ _ = w9
  have S10 := (S4.sel [3, 2, 1]).set4 rfl hW
  have A3 := S10.blk 0 rfl
  have q0 := A3.cell 0 rfl
  have q1 := A3.cell 1 rfl
  have q2 := A3.cell 2 rfl
  have q3 := A3.cell 3 rfl
  have S11 := S10.sel [1, 2]
  have bL : -9223372036854775808 ≤ (L : Int) ∧ (L : Int) ≤ 9223372036854775807 := ⟨by omega, by omega⟩
  obtain rfl := HX.out
  exact bodyPost_ret (v := .tuple #[.agg #[.int .i64 L, .int .i64 0, .slice (some ⟨w4.heap.size, 0, none⟩) 2 2, .slice (some ⟨w5.heap.size, 0, none⟩) 2 2], .int .i64 0]) (by simp [results, Tryz.results43, go_sem, q0, q1, q2, q3]) rfl (writ_done (x := ⟨⟨L, 0, [back0 L, back1 L]⟩, [noStr L, allStr L]⟩) S11 bL bd0)

end Go.Proofs.YtfamhnogpcmbmaaGreatDoor
