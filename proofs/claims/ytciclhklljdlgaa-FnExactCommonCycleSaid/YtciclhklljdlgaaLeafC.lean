/-
  Contracts of the laws' own helpers over rotators.
-/
import Derived.Test.YtciclhklljdlgaaLeafB
import Derived.Test.YtciclhklljdlgaaStructs
namespace Go.Proofs.Ytciclhklljdlgaa
open Go.RowKit

set_option maxHeartbeats 400000 in
theorem toRotator_any (cs : List Value) (r : Rot) (B : Nat) (w : World) (hB0 : B ≤ w.heap.size) (h : rotsE.rd w B cs r) (hl : r.next.length ≤ 1048576) (hm : ∀ x, x ∈ r.next → x.length ≤ 1048576) (hf : r.fin.length ≤ 1048576) :
    Calls Try.prog 15 #[.agg cs.toArray] w (MakesS rotsE id r w) := by
  obtain ⟨v3, v4, rfl, b1, b2, h3, h4⟩ := rd_Rot h
  have H3 := Lib.hid h3; clear h3 h
  have H4 := Lib.hid h4; clear h4
  have Hm := Lib.hid hm; clear hm
  obtain ⟨s3, n3, c3, hs3⟩ : ∃ a n c, v3 = .slice a n c := rd_slice H3.out
  obtain ⟨s4, n4, c4, hs4⟩ : ∃ a n c, v4 = .slice a n c := rd_slice H4.out
  subst hs3 hs4
  go_enter Try.func15, Try.ntmps15
  go_wp2_with fail
  generalize hW : (((w.alloc _).alloc _).alloc _ : World) = w3
  obtain ⟨A0, A1, A2, hB⟩ := blk3 hW
  clear hW
  obtain ⟨g, hg⟩ : ∃ g, g = w.heap.size := ⟨_, rfl⟩
  rw [← hg] at hB A0 A1 A2 ⊢
  have Hg := Lib.hid hg; clear hg
  have L2 := A2.lt
  refine (toInt64SS_any _ _ g _ (by omega) (intssE.rd_of hB (intssE.rd_mono (by rw [Hg.out]; exact hB0) H3.out)) hl Hm.out).mono ?_
  rintro e w4 ⟨v', fp, rfl, ho, hnd, hge, hbl⟩
  obtain ⟨a', n', cp', rfl⟩ := ow_slice ho
  have B4 := hB.trans (hbl.mono (by omega))
  have A0 := A0.of hbl A0.lt
  have A1 := A1.of hbl A1.lt
  have A2 := A2.of hbl A2.lt
  have ho := intssE.ow_frame (w' := w4.setCell ⟨g + 1 + 1, 2, none⟩ (.slice a' n' cp')) (fun b hb => Below.heap_setCell _ _ _ _ (by have := hge b hb; simp; omega)) ho
  have HO := Lib.hid ho; clear ho
  have HBL := Lib.hid hbl; clear hbl
  have HGE := Lib.hid hge; clear hge
  have HND := Lib.hid hnd; clear hnd
  have d1 := A2.free 2
  have d2 := A2.cell 2 rfl
  have d3 := A0.cell 3 rfl
  have HA0 := Lib.hid A0; clear A0
  have HA1 := Lib.hid A1; clear A1
  have HA2 := Lib.hid A2; clear A2
  have HB4 := Lib.hid B4; clear B4
  clear hB
  go_wp2_with fail
  clear d1 d2 d3
  generalize hW5 : w4.setCell ⟨g + 1 + 1, 2, none⟩ (.slice a' n' cp') = w5 at *
  have A0 := hW5 ▸ HA0.out.other (a := ⟨g + 1 + 1, 2, none⟩) (by simp; omega) (.slice a' n' cp')
  have A1 := hW5 ▸ HA1.out.other (a := ⟨g + 1 + 1, 2, none⟩) (by simp) (.slice a' n' cp')
  have A2 := hW5 ▸ HA2.out.set 2 (.slice a' n' cp')
  have B5 := hW5 ▸ HB4.out.setCell (p := ⟨g + 1 + 1, 2, none⟩) (by simp; omega) (.slice a' n' cp')
  clear hW5 HA0 HA1 HA2 HB4
  refine (toInt64S_any _ _ g _ (intsE.rd_of B5 (intsE.rd_mono (by rw [Hg.out]; exact hB0) H4.out)) hf).mono ?_
  rintro e w6 ⟨v2, fq, rfl, ho2, hnd2, hge2, hbl2⟩
  obtain ⟨a2, n2, cp2, rfl⟩ := ow_slice ho2
  have L0 := A0.lt
  have L1 := A1.lt
  have L3 := A2.lt
  have A0 := A0.of hbl2 L0
  have A1 := A1.of hbl2 L1
  have A2 := A2.of hbl2 L3
  have B6 := B5.trans (hbl2.mono (by omega))
  have HLT := Lib.hid (intssE.ow_lt HO.out)
  have HO1 := Lib.hid (intssE.ow_of hbl2 HO.out); clear HO
  have S5 := A2.lt
  have S6 := B5.size
  have d1 := A2.free 3
  have d2 := A2.cell 3 rfl
  have d4 := A2.cell 0 rfl
  have d5 := A2.cell 1 rfl
  have d6 := A2.cell 2 rfl
  have e1 := A1.free 0
  have e2 := A1.free 1
  have e3 := A1.free 2
  have e4 := A1.free 3
  have f1 := A1.cell 0 rfl
  have f2 := A1.cell 1 rfl
  have f3 := A1.cell 2 rfl
  have f4 := A1.cell 3 rfl
  have HA0 := Lib.hid A0; clear A0
  have HA1 := Lib.hid A1; clear A1
  have HA2 := Lib.hid A2; clear A2
  have HB6 := Lib.hid B6; clear B6
  clear hbl2 B5
  go_wp2_with fail
  have A1 := ((((HA1.out.other (a := ⟨g + 1 + 1, 3, none⟩) (by simp) (.slice a2 n2 cp2)).set 0 (.int .i64 r.letters)).set 1 (.int .i64 r.start)).set 2 (.slice a' n' cp')).set 3 (.slice a2 n2 cp2)
  have hbut : But [g + 1, g + 1 + 1] w6 _ := (((((But.refl [g + 1, g + 1 + 1] w6).setCell (a := ⟨g + 1 + 1, 3, none⟩) (by simp) (.slice a2 n2 cp2)).setCell (a := ⟨g + 1, 0, none⟩) (by simp) (.int .i64 r.letters)).setCell (a := ⟨g + 1, 1, none⟩) (by simp) (.int .i64 r.start)).setCell (a := ⟨g + 1, 2, none⟩) (by simp) (.slice a' n' cp')).setCell (a := ⟨g + 1, 3, none⟩) (by simp) (.slice a2 n2 cp2)
  generalize ((((w6.setCell ⟨g + 1 + 1, 3, none⟩ (.slice a2 n2 cp2)).setCell ⟨g + 1, 0, none⟩ (.int .i64 r.letters)).setCell ⟨g + 1, 1, none⟩ (.int .i64 r.start)).setCell ⟨g + 1, 2, none⟩ (.slice a' n' cp')).setCell ⟨g + 1, 3, none⟩ (.slice a2 n2 cp2) = wf at *
  have c0 := A1.cell 0 rfl
  have c1 := A1.cell 1 rfl
  have c2 := A1.cell 2 rfl
  have c3 := A1.cell 3 rfl
  refine bodyPost_ret (v := .agg #[.int .i64 r.letters, .int .i64 r.start, .slice a' n' cp', .slice a2 n2 cp2]) ?_ rfl ?_
  · simp [results, Try.results15, go_sem, c0, c1, c2, c3]
  · have q1 := HGE.out
    have o1 := intssE.ow_but HO1.out hbut (fun b hb => by have := q1 b hb; simp; omega)
    have o2 := intsE.ow_but ho2 hbut (fun b hb => by have := hge2 b hb; simp; omega)
    refine ⟨_, _, rfl, ow_Rot b1 b2 o1 o2, ?_, ?_, ?_⟩
    · rw [List.nodup_append]
      exact ⟨HND.out, hnd2, fun a ha b hb => by have := HLT.out a ha; have := hge2 b hb; omega⟩
    · intro b hb
      rw [← Hg.out]
      rcases List.mem_append.1 hb with hb | hb
      · have := q1 b hb; omega
      · have := hge2 b hb; omega
    · rw [← Hg.out]
      exact HB6.out.trans (hbut.below (by intro b hb; simp at hb; omega) (by omega))
end Go.Proofs.Ytciclhklljdlgaa
