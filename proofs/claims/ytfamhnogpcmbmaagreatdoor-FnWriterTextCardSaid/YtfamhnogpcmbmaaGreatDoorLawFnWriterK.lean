/-
  The law FnWriterText: whatever the bytes, it returns true and leaves what was there as it was.
-/
import Derived.Test.YtfamhnogpcmbmaaGreatDoorA2WK
import Derived.Test.YtfamhnogpcmbmaaGreatDoorRwWK
import Derived.Test.YtfamhnogpcmbmaaGreatDoorSpecSameWritK
import Derived.Test.YtfamhnogpcmbmaaGreatDoorPackA
import Derived.Deep.DeepCutAuto
namespace Go.Proofs.YtfamhnogpcmbmaaGreatDoor
open Go.RowKit Go.PlainAid

/-- A box with a writer. -/
structure WbAt (w : World) (g : Nat) (W : Writer) (v2 v3 : Value) : Prop where
  b : Blk w g [.int .i64 W.turner.letters, .int .i64 W.turner.start, v2, v3] 29
  rd : writE.rd w w.heap.size [.int .i64 W.turner.letters, .int .i64 W.turner.start, v2, v3] W

theorem WbAt.of {w w' : World} {g : Nat} {W : Writer} {v2 v3 : Value} (h : WbAt w g W v2 v3) (b : Below w.heap.size w w') : WbAt w' g W v2 v3 := ⟨h.b.of b h.b.lt, writE.rd_mono b.size (writE.rd_of b h.rd)⟩

theorem WbAt.new {w : World} {W : Writer} {v2 v3 : Value} (h : writE.rd w w.heap.size [.int .i64 W.turner.letters, .int .i64 W.turner.start, v2, v3] W) : WbAt (w.alloc (.cells #[.int .i64 W.turner.letters, .int .i64 W.turner.start, v2, v3] 29)) w.heap.size W v2 v3 :=
  ⟨Blk.new w #[.int .i64 W.turner.letters, .int .i64 W.turner.start, v2, v3] 29, writE.rd_mono (by simp) (writE.rd_of ((Below.refl _ _).alloc (Nat.le_refl _) _) h)⟩

theorem writL_long {r : Writer} (h : writerOk r = true) : 1 ≤ (writL r).length := by
  rw [writL_is (writOk_of h)]
  simp only [List.length_append, List.length_cons, List.length_nil]
  omega

set_option maxHeartbeats 40000000 in
set_option maxRecDepth 100000 in
theorem lawFnWriterText_any (v0 : Value) (code : List Int) (v1 : Value) (more : List Int) (m : Int) (w : World) (h0 : bytesE.rd w w.heap.size [v0] code) (h1 : bytesE.rd w w.heap.size [v1] more) (hM : MaxIsT m w.heap.size w) (hT : Pow10 w.heap.size w) (h15 : ErrIs (Tryz.lays174_ren.g 15) w.heap.size w) (h16 : ErrIs (Tryz.lays174_ren.g 16) w.heap.size w) :
    Calls Tryz.prog 3 #[v0, v1] w (Gives (.bool true) w) := by
  obtain ⟨ca, cc, rfl, -, -, -, -⟩ := rd_bytes h0
  obtain ⟨ma, mc, rfl, -, -, -, -⟩ := rd_bytes h1
  by_cases hl : 3000 < code.length ∨ 3000 < more.length
  · have HL := Lib.hid (a2Long_is true _ _ code more _ _ w (decide_eq_true hl) h0 h1)
    clear hl h0 h1 hM hT h15 h16
    go_enter Tryz.func3, Tryz.ntmps3
    go_wp2_with fail
    refine HL.out.mono ?_
    rintro e w1 ⟨rfl, rfl⟩
    go_wp2
    go_ret
    exact ⟨rfl, Below.refl _ _⟩
  have HL := Lib.hid (a2Long_is false _ _ code more _ _ w (decide_eq_false hl) h0 h1)
  have HA := Lib.hid (a2At_is 0 2 _ more _ w (by omega) (by omega) (by omega) h1)
  have HC := Lib.hid h0
  have HRW := Lib.hid (fun (s : List UInt8) w' (hs : s.length ≤ 667) (bl : Below w.heap.size w w') => readWriter_any s m w' (by omega) (hM.at bl) (h15.at bl) (h16.at bl) ((hT.step bl).up bl.size))
  have HWT := Lib.hid (fun cs r B w' (bl : Below w.heap.size w w') (hB : B ≤ w'.heap.size) (h : writE.rd w' B cs r) => writText_any cs r B w' hB h ((hT.step bl).up bl.size))
  clear hl h0 h1 hM hT h15 h16
  go_enter Tryz.func3, Tryz.ntmps3
  go_wp2_with fail
  refine HL.out.mono ?_
  rintro e w ⟨rfl, rfl⟩
  go_wp2_with fail
  refine HA.out.mono ?_
  rintro e w ⟨n0, rfl, hn0, rfl⟩
  obtain ⟨c, hcc⟩ : ∃ c, c = 1 + n0 := ⟨_, rfl⟩
  have wn : IntKind.i64.wrap (1 + (n0 : Int)) = (c : Int) := by rw [hcc, Int.natCast_add]; exact IntWalk.i64_in _ ⟨by omega, by omega⟩
  have hc1 : 1 ≤ c := by omega
  have hc2 : c ≤ 2 := by omega
  have hc3 : c ≤ 3 := by omega
  clear HL HA hcc hn0
  go_wp2_with fail
  refine (A2Writer_any c 4 _ _ hc1 hc3 (by omega) (by omega) ⟨_, HC.out⟩).mono ?_
  rintro e w1 ⟨U, u2, u3, rfl, hok, hlt, hrd, b1⟩
  have KU := Lib.hid hok
  obtain ⟨x2, x3, hcs, -, -, q1, q2⟩ := rd_WriterF hrd
  obtain ⟨rfl, rfl⟩ : u2 = x2 ∧ u3 = x3 := by simpa using hcs
  obtain ⟨la, ln, lc, rfl⟩ := rd_slice q1
  obtain ⟨ra, rn, rc, rfl⟩ := rd_slice q2
  have HU := Lib.hid (WbAt.new hrd)
  have HB := Lib.hid (b1.alloc b1.size (.cells #[.int .i64 U.turner.letters, .int .i64 U.turner.start, .slice la ln lc, .slice ra rn rc] 29))
  clear hok hlt hrd hcs q1 q2 b1 HC
  go_upto_region 4 with fail
  generalize hW : w1.alloc _ = w2 at HU HB ⊢
  obtain ⟨g5, hg⟩ : ∃ g, g = w1.heap.size := ⟨_, rfl⟩
  rw [← hg] at HU ⊢
  clear hW hg
  have d0 := HU.out.b.cell 0 rfl
  have d1 := HU.out.b.cell 1 rfl
  have d2 := HU.out.b.cell 2 rfl
  have d3 := HU.out.b.cell 3 rfl
  have htx : writText U = mkB (writL U) := by unfold writText; rw [if_pos KU.out]; rfl
  have hln := (writOk_of KU.out).writL_le
  have hl1 := writL_long KU.out
  obtain ⟨T, hTT⟩ : ∃ T, T = mkB (writL U) := ⟨_, rfl⟩
  have HW1 := Lib.hid (fun w' (bl : Below w.heap.size w w') => show Calls Tryz.prog 9 #[.string T] w' (MakesC writE (U, 0) w') from by
    rw [hTT, ← readW_is KU.out]; exact HRW.out (writL U) w' hln bl)
  obtain ⟨j, hj⟩ : ∃ j, j + 1 = (writL U).length := ⟨(writL U).length - 1, by omega⟩
  have HW2 := Lib.hid (fun w' (bl : Below w.heap.size w w') => show Calls Tryz.prog 9 #[.string (T.extract 0 j)] w' (MakesC writE (noWrit, 5) w') from by
    rw [hTT, ext_take _ _ (by omega), ← readW_less KU.out, show j = (writL U).length - 1 by omega]
    exact HRW.out _ w' (by rw [List.length_take]; omega) bl)
  have hTs : T.size = j + 1 := by rw [hTT, mkB_size, hj]
  have HWX := Lib.hid (show Calls Tryz.prog 8 #[.agg #[.int .i64 U.turner.letters, .int .i64 U.turner.start, .slice la ln lc, .slice ra rn rc]] w2 (Gives (.string T) w2) from by
    rw [hTT, ← htx]; exact HWT.out _ U _ w2 HB.out (Nat.le_refl _) HU.out.rd)
  have HTS := Lib.hid hTs
  have hj7 : j ≤ 666 := by omega
  clear htx hln hl1 hTT hj hTs HRW HWT
  go_wp2_with fail
  refine HWX.out.mono ?_
  rintro e w3 ⟨rfl, b3⟩
  clear d0 d1 d2 d3 HWX
  replace HU := Lib.hid (HU.out.of b3)
  replace HB := Lib.hid (HB.out.trans (b3.mono HB.out.size))
  clear b3
  go_wp2_with fail
  refine (HW1.out _ HB.out).mono ?_
  rintro e w4 ⟨cs, f, rfl, o, nd, lo, b4⟩
  have hrd := writE.rd_ow o
  obtain ⟨v2, v3, rfl, -, -, q1, q2⟩ := rd_WriterF hrd
  obtain ⟨ja, jn, jc, rfl⟩ := rd_slice q1
  obtain ⟨ka, kn, kc, rfl⟩ := rd_slice q2
  have b4' := b4.alloc b4.size (.cells #[.int .i64 U.turner.letters, .int .i64 U.turner.start, .slice ja jn jc, .slice ka kn kc] 29)
  have HV := Lib.hid (WbAt.new hrd)
  replace HU := Lib.hid (HU.out.of b4')
  replace HB := Lib.hid (HB.out.trans (b4'.mono HB.out.size))
  clear hrd q1 q2 o nd lo b4 b4' HW1
  go_upto_region 6 with fail
  generalize hW : w4.alloc _ = w5 at HU HB HV ⊢
  obtain ⟨g7, hg⟩ : ∃ g, g = w4.heap.size := ⟨_, rfl⟩
  rw [← hg] at HV ⊢
  clear hW hg
  have d0 := HU.out.b.cell 0 rfl
  have d1 := HU.out.b.cell 1 rfl
  have d2 := HU.out.b.cell 2 rfl
  have d3 := HU.out.b.cell 3 rfl
  have e0 := HV.out.b.cell 0 rfl
  have e1 := HV.out.b.cell 1 rfl
  have e2 := HV.out.b.cell 2 rfl
  have e3 := HV.out.b.cell 3 rfl
  have HS := Lib.hid (show Calls Tryz.prog 10 #[.agg #[.int .i64 U.turner.letters, .int .i64 U.turner.start, .slice la ln lc, .slice ra rn rc], .agg #[.int .i64 U.turner.letters, .int .i64 U.turner.start, .slice ja jn jc, .slice ka kn kc]] w5 (Gives (.bool true) w5) from by
    have h := specSameWriter_any _ _ U U _ _ w5 (Nat.le_refl _) (Nat.le_refl _) HU.out.rd HV.out.rd
    rw [decide_eq_true rfl] at h
    exact h)
  go_wp2_with fail
  refine HS.out.mono ?_
  rintro e w6 ⟨rfl, b6⟩
  clear d0 d1 d2 d3 e0 e1 e2 e3 HS HU
  replace HV := Lib.hid (HV.out.of b6)
  replace HB := Lib.hid (HB.out.trans (b6.mono HB.out.size))
  clear b6
  have e0 := HV.out.b.cell 0 rfl
  have e1 := HV.out.b.cell 1 rfl
  have e2 := HV.out.b.cell 2 rfl
  have e3 := HV.out.b.cell 3 rfl
  have HVA := Lib.hid (show Calls Tryz.prog 11 #[.agg #[.int .i64 U.turner.letters, .int .i64 U.turner.start, .slice ja jn jc, .slice ka kn kc]] w6 (Gives (.bool true) w6) from by
    have h := validWriter_any _ U _ w6 (Nat.le_refl _) HV.out.rd
    rw [KU.out] at h
    exact h)
  have t1 : ¬ (T.size : Int) < 1 := by have := HTS.out; omega
  go_wp2_with fail
  refine HVA.out.mono ?_
  rintro e w7 ⟨rfl, b7⟩
  clear e0 e1 e2 e3 HVA HV
  replace HB := Lib.hid (HB.out.trans (b7.mono HB.out.size))
  clear b7
  have tj : IntKind.i64.wrap ((T.size : Int) - 1) = (j : Int) := by have := HTS.out; rw [IntWalk.i64_in _ ⟨by omega, by omega⟩]; omega
  have i1 : (0 : Int) ≤ (j : Int) := by omega
  have i2 : (j : Int) ≤ (T.size : Int) := by have := HTS.out; omega
  go_wp2_with fail
  refine (HW2.out _ HB.out).mono ?_
  rintro e w8 ⟨cs, f, rfl, o, nd, lo, b8⟩
  obtain ⟨v2, v3, rfl, -, -, q1, q2⟩ := rd_WriterF (writE.rd_ow o)
  obtain ⟨pa, pn, pc, rfl⟩ := rd_slice q1
  obtain ⟨qa, qn, qc, rfl⟩ := rd_slice q2
  have b8' := b8.alloc b8.size (.cells #[.int .i64 noWrit.turner.letters, .int .i64 noWrit.turner.start, .slice pa pn pc, .slice qa qn qc] 29)
  replace HB := Lib.hid (HB.out.trans (b8'.mono HB.out.size))
  clear q1 q2 o nd lo b8 b8' HW2 tj i1 i2
  go_wp2
  go_ret
  exact ⟨rfl, HB.out⟩

end Go.Proofs.YtfamhnogpcmbmaaGreatDoor
