/-
  A drawn writer.
-/
import Derived.Test.YtfamhnogpcmbmaaGreatDoorDrawWK
import Derived.Test.YtfamhnogpcmbmaaGreatDoorA2K
namespace Go.Proofs.YtfamhnogpcmbmaaGreatDoor
open Go.RowKit Go.PlainAid

set_option maxHeartbeats 4000000 in
theorem A2Writer_any (c most : Nat) (v : Value) (w : World) (hc1 : 1 ≤ c) (hc : c ≤ 3) (hm1 : 1 ≤ most) (hm : most ≤ 4) (hr : SrcIs w v) :
    Calls Tryz.prog 6 #[v, .int .i64 (c : Nat), .int .i64 (most : Nat)] w (fun e w' => ∃ (W : Writer) (v2 v3 : Value), e = .returned (.agg #[.int .i64 W.turner.letters, .int .i64 W.turner.start, v2, v3]) ∧ writerOk W = true ∧ W.turner.letters = c ∧ writE.rd w' w'.heap.size [.int .i64 W.turner.letters, .int .i64 W.turner.start, v2, v3] W ∧ Below w.heap.size w w') := by
  have hv : ∃ a n c, v = .slice a n c := by
    obtain ⟨code, hr⟩ := hr
    obtain ⟨a, cap, rfl, -⟩ := rd_bytes hr
    exact ⟨a, _, cap, rfl⟩
  obtain ⟨va, vn, vc, rfl⟩ := hv
  have S := (Star.nil w).alloc (cs := #[.int .i64 0, .int .i64 0, .slice none 0 0, .slice none 0 0]) (ty := 29)
  have HR := Lib.hid hr
  clear hr
  go_enter Tryz.func6, Tryz.ntmps6
  go_wp2_with fail
  generalize hW : w.alloc _ = w0 at S ⊢
  obtain ⟨g2, hg2⟩ : ∃ g, g = w.heap.size := ⟨_, rfl⟩
  rw [← hg2] at S ⊢
  clear hW hg2
  refine (fromP_any _ w w0 _ HR.out S).mono ?_
  rintro e w1 ⟨q, rfl, S1⟩
  go_wp2_with fail
  refine (l07Drawn_any _ q 0 c most _ w w1 hc1 hc hm1 hm (by omega) HR.out S1).mono ?_
  rintro e w2 ⟨W, v2, v3, rfl, hok, hlt, S2⟩
  have S3 := S2.sel [2, 0]
  obtain ⟨x2, x3, hcs, -, -, q1, q2⟩ := rd_WriterF (S3.rd 1 rfl)
  obtain ⟨rfl, rfl⟩ : v2 = x2 ∧ v3 = x3 := by simpa using hcs
  obtain ⟨la, ln, lc, rfl⟩ := rd_slice q1
  obtain ⟨ra, rn, rc, rfl⟩ := rd_slice q2
  have A3 := S3.blk 0 rfl
  have z0 := A3.cell 0 rfl
  have z1 := A3.cell 1 rfl
  have z2 := A3.cell 2 rfl
  have z3 := A3.cell 3 rfl
  have zf := A3.free
  have HOK := Lib.hid hok; have HLT := Lib.hid hlt
  clear A3 q1 q2 S S1 S2 hok hlt hcs
  go_wp2
  generalize hW : (((w2.setCell _ _).setCell _ _).setCell _ _).setCell _ _ = w9
  have S9 := S3.set4 rfl hW
  have A4 := S9.blk 0 rfl
  have r0 := A4.cell 0 rfl
  have r1 := A4.cell 1 rfl
  have r2 := A4.cell 2 rfl
  have r3 := A4.cell 3 rfl
  exact bodyPost_ret (v := .agg #[.int .i64 W.turner.letters, .int .i64 W.turner.start, .slice la ln lc, .slice ra rn rc]) (by simp [results, Tryz.results6, go_sem, r0, r1, r2, r3]) rfl ⟨W, _, _, rfl, HOK.out, HLT.out, S9.rd 1 rfl, S9.below⟩

end Go.Proofs.YtfamhnogpcmbmaaGreatDoor
