/-
  PreimageTurner of the program (written by a program of this claim's own, gen_pre.py).
-/
import Derived.Test.YtcifdkliiljmkaaGreatDoorPreK
import Derived.Test.YtcifdkliiljmkaaGreatDoorTurnOrK
namespace Go.Proofs.YtcifdkliiljmkaaGreatDoor
open Go.RowKit

set_option maxHeartbeats 4000000 in
theorem preTurner_is (x : Turner × Int) (cs : List Value) (u : Writer) (ds : List Value) (r : Reader) (B : Nat) (w : World) (hB0 : B ≤ w.heap.size) (h : writE.rd w B cs u) (h' : readE.rd w B ds r) (hx : preTurner u r = x) :
    Calls Tryz.prog 10 #[.agg cs.toArray, .agg ds.toArray] w (MakesC turnE x w) := by
  rw [preTurner_eq] at hx
  have HX := Lib.hid hx
  have RA := Lib.hid h
  have RB := Lib.hid h'
  obtain ⟨u2, u3, rfl, k0, k1, k2, k3⟩ := rd_WriterF h
  have K3 := Lib.hid k3
  have M2 := Lib.hid k2
  obtain ⟨ta, tn, tc, rfl⟩ := rd_slice k2
  obtain ⟨oa, on, oc, rfl⟩ := rd_slice k3
  obtain ⟨v3, v4, rfl, b1, b2, h3, h4⟩ := rd_Reader h'
  have H3 := Lib.hid h3; have H4 := Lib.hid h4
  obtain ⟨ba, bn, bc, rfl⟩ := rd_slice h3
  obtain ⟨na, nn, nc, rfl⟩ := rd_slice h4
  clear hx h h' k2 k3 h3 h4
  have S := (((Star.nil w).alloc (cs := #[.int .i64 u.turner.letters, .int .i64 u.turner.start, .slice ta tn tc, .slice oa on oc]) (ty := 40)).alloc (cs := #[.int .i64 r.letters, .int .i64 r.start, .slice ba bn bc, .slice na nn nc]) (ty := 42)).alloc (cs := #[.int .i64 0, .int .i64 0, .slice none 0 0]) (ty := 36)
  rw [World.size_alloc, World.size_alloc] at S
  go_enter Tryz.func10, Tryz.ntmps10
  go_wp2_with fail
  generalize hW : ((w.alloc _).alloc _).alloc _ = w0 at S ⊢
  clear hW
  replace S : Star w w0 [oB (w.heap.size + 1 + 1) [.int .i64 0, .int .i64 0, .slice none 0 0] 36, oB (w.heap.size + 1) [.int .i64 r.letters, .int .i64 r.start, .slice ba bn bc, .slice na nn nc] 42, oB w.heap.size [.int .i64 u.turner.letters, .int .i64 u.turner.start, .slice ta tn tc, .slice oa on oc] 40] := S
  refine (preimage_is _ _ u _ r B w0 (Nat.le_trans hB0 S.below.size) (writE.rd_of (S.below.mono hB0) RA.out) (readE.rd_of (S.below.mono hB0) RB.out) rfl).mono ?_
  rintro e w1 ⟨cs, fp, rfl, o, nd, lo, b⟩
  obtain ⟨v5, rfl, -, -, o5⟩ := rd_Turner (Enc.rd_ow _ o)
  obtain ⟨ca, cn, cc, rfl⟩ := rd_slice o5
  obtain ⟨t, ht⟩ : ∃ t, t = (preimg u r).1 := ⟨_, rfl⟩
  obtain ⟨c, hc⟩ : ∃ c, c = (preimg u r).2 := ⟨_, rfl⟩
  rw [← ht, ← hc] at HX
  rw [← ht] at o ⊢
  rw [← hc]
  clear ht hc o5
  replace S := (S.made o nd lo b).alloc (cs := #[.int .i64 t.letters, .int .i64 t.start, .slice ca cn cc]) (ty := 36)
  clear o nd lo b
  by_cases hc : c = 0
  case neg =>
    have tA : (c != 0) = true := by simpa using hc
    have hx : (default, c) = x := by have := HX.out; rwa [if_neg hc] at this
    have HX := Lib.hid hx
    clear hx
    have R0 := S.blk 2 rfl
    have c0 := R0.cell 0 rfl
    have c1 := R0.cell 1 rfl
    have c2 := R0.cell 2 rfl
    have f0 := R0.free
    go_wp2
    generalize hW : (((w1.alloc _).setCell _ _).setCell _ _).setCell _ _ = w9
    replace S := (S.sel [2, 0, 1, 3, 4]).set3 rfl hW
    have A3 := S.blk 0 rfl
    have q0 := A3.cell 0 rfl
    have q1 := A3.cell 1 rfl
    have q2 := A3.cell 2 rfl
    obtain rfl := HX.out
    exact bodyPost_ret (v := .tuple #[.agg #[.int .i64 0, .int .i64 0, .slice none 0 0], .int .i64 c]) (by simp [results, Tryz.results10, go_sem, q0, q1, q2]) rfl (S.flat (ow_Turner_zero _)).done
  have tA : (c != 0) = false := by simpa using hc
  have hx : turnOr t = x := by have := HX.out; rwa [if_pos hc] at this
  clear HX
  have HX := Lib.hid hx
  clear hx
  have HB := Lib.hid S.below
  go_wp2_with fail
  generalize hW : w1.alloc _ = w2 at S ⊢
  clear hW
  cases hv : validTurn t
  case false =>
    refine (turnerOr_no _ t _ w2 (Nat.le_refl _) (S.rd 1 rfl) hv).mono ?_
    rintro e w3 ⟨rfl, b⟩
    replace S := S.step b
    clear b
    have hto : turnOr t = (default, 3) := by unfold turnOr; rw [hv]; rfl
    have HT := Lib.hid (hto.symm.trans HX.out)
    clear hto HX
    have R0 := S.blk 2 rfl
    have c0 := R0.cell 0 rfl
    have c1 := R0.cell 1 rfl
    have c2 := R0.cell 2 rfl
    have f0 := R0.free
    go_wp2
    generalize hW : ((w3.setCell _ _).setCell _ _).setCell _ _ = w9
    replace S := (S.sel [2, 0, 1, 3, 4]).set3 rfl hW
    have A3 := S.blk 0 rfl
    have q0 := A3.cell 0 rfl
    have q1 := A3.cell 1 rfl
    have q2 := A3.cell 2 rfl
    obtain rfl := HT.out
    exact bodyPost_ret (v := .tuple #[.agg #[.int .i64 0, .int .i64 0, .slice none 0 0], .int .i64 3]) (by simp [results, Tryz.results10, go_sem, q0, q1, q2]) rfl (S.flat (ow_Turner_zero _)).done
  refine (turnerOr_yes _ t _ w2 (Nat.le_refl _) (S.rd 1 rfl) hv).mono ?_
  rintro e w3 ⟨rfl, b⟩
  replace S := S.step b
  clear b
  have hto : turnOr t = (t, 0) := by unfold turnOr; rw [hv]; rfl
  have HT := Lib.hid (hto.symm.trans HX.out)
  clear hto HX
  have R0 := S.blk 2 rfl
  have c0 := R0.cell 0 rfl
  have c1 := R0.cell 1 rfl
  have c2 := R0.cell 2 rfl
  have f0 := R0.free
  go_wp2
  generalize hW : ((w3.setCell _ _).setCell _ _).setCell _ _ = w9
  replace S := (S.sel [2, 1]).set3 rfl hW
  have A3 := S.blk 0 rfl
  have q0 := A3.cell 0 rfl
  have q1 := A3.cell 1 rfl
  have q2 := A3.cell 2 rfl
  obtain rfl := HT.out
  exact bodyPost_ret (v := .tuple #[.agg #[.int .i64 t.letters, .int .i64 t.start, .slice ca cn cc], .int .i64 0]) (by simp [results, Tryz.results10, go_sem, q0, q1, q2]) rfl (S.sel [1]).done

end Go.Proofs.YtcifdkliiljmkaaGreatDoor
