/-
  CopyWriter of the reference (written by a program of this claim's own, gen_copy.py).
-/
import Derived.Test.YtfamhnogpcmbmaaGreatDoorSpecPassK
import Derived.Test.YtfamhnogpcmbmaaGreatDoorToldK
namespace Go.Proofs.YtfamhnogpcmbmaaGreatDoor
open Go.RowKit

set_option maxHeartbeats 8000000 in
set_option maxRecDepth 100000 in
theorem specCopy_is (x : Writer × Int) (letters times : Int) (w : World) (hl : -9223372036854775808 ≤ letters ∧ letters ≤ 9223372036854775807) (ht : -9223372036854775808 ≤ times ∧ times ≤ 9223372036854775807) (hx : copyWriter letters times = x) :
    Calls Tryz.prog 41 #[.int .i64 letters, .int .i64 times] w (MakesC writE x w) := by
  have HX := Lib.hid hx
  clear hx
  go_enter Tryz.func41, Tryz.ntmps41
  go_wp2_with fail
  have S := (Star.nil w).alloc (cs := #[.int .i64 0, .int .i64 0, .slice none 0 0, .slice none 0 0]) (ty := 29)
  generalize hW : w.alloc _ = w0 at S ⊢
  clear hW
  refine (l00In_k _ _ _ _).mono ?_
  rintro e w1 ⟨rfl, rfl⟩
  generalize hw1 : w0 = w1 at S ⊢
  clear hw1
  cases h1 : within letters 1 3
  case false =>
    have A0 := S.blk 0 rfl
    have c0 := A0.cell 0 rfl
    have c1 := A0.cell 1 rfl
    have c2 := A0.cell 2 rfl
    have c3 := A0.cell 3 rfl
    have f0 := A0.free
    go_wp2
    generalize hW : (((w1.setCell _ _).setCell _ _).setCell _ _).setCell _ _ = w3
    replace S := S.set4 rfl hW
    have A3 := S.blk 0 rfl
    have q0 := A3.cell 0 rfl
    have q1 := A3.cell 1 rfl
    have q2 := A3.cell 2 rfl
    have q3 := A3.cell 3 rfl
    obtain rfl : x = (default, 2) := by rw [← HX.out]; unfold copyWriter; rw [h1]; rfl
    exact bodyPost_ret (v := .tuple #[.agg #[.int .i64 0, .int .i64 0, .slice none 0 0, .slice none 0 0], .int .i64 2]) (by simp [results, Tryz.results41, go_sem, q0, q1, q2, q3]) rfl (S.flat (ow_Writer_zero _)).done
  by_cases h2 : 1 ≤ times
  case neg =>
    have t2 : times < 1 := by omega
    have A0 := S.blk 0 rfl
    have c0 := A0.cell 0 rfl
    have c1 := A0.cell 1 rfl
    have c2 := A0.cell 2 rfl
    have c3 := A0.cell 3 rfl
    have f0 := A0.free
    go_wp2
    generalize hW : (((w1.setCell _ _).setCell _ _).setCell _ _).setCell _ _ = w3
    replace S := S.set4 rfl hW
    have A3 := S.blk 0 rfl
    have q0 := A3.cell 0 rfl
    have q1 := A3.cell 1 rfl
    have q2 := A3.cell 2 rfl
    have q3 := A3.cell 3 rfl
    obtain rfl : x = (default, 2) := by rw [← HX.out]; unfold copyWriter; rw [h1, show decide (1 ≤ times) = false from decide_eq_false (by omega)]; rfl
    exact bodyPost_ret (v := .tuple #[.agg #[.int .i64 0, .int .i64 0, .slice none 0 0, .slice none 0 0], .int .i64 2]) (by simp [results, Tryz.results41, go_sem, q0, q1, q2, q3]) rfl (S.flat (ow_Writer_zero _)).done
  have t2 : ¬ times < 1 := by omega
  by_cases h3 : 12 < times
  case pos =>
    have A0 := S.blk 0 rfl
    have c0 := A0.cell 0 rfl
    have c1 := A0.cell 1 rfl
    have c2 := A0.cell 2 rfl
    have c3 := A0.cell 3 rfl
    have f0 := A0.free
    go_wp2
    generalize hW : (((w1.setCell _ _).setCell _ _).setCell _ _).setCell _ _ = w3
    replace S := S.set4 rfl hW
    have A3 := S.blk 0 rfl
    have q0 := A3.cell 0 rfl
    have q1 := A3.cell 1 rfl
    have q2 := A3.cell 2 rfl
    have q3 := A3.cell 3 rfl
    obtain rfl : x = (default, 3) := by rw [← HX.out]; unfold copyWriter; rw [h1, decide_eq_true h2]; show (if 12 < times then _ else _) = _; rw [if_pos h3]
    exact bodyPost_ret (v := .tuple #[.agg #[.int .i64 0, .int .i64 0, .slice none 0 0, .slice none 0 0], .int .i64 3]) (by simp [results, Tryz.results41, go_sem, q0, q1, q2, q3]) rfl (S.flat (ow_Writer_zero _)).done
  have hb := within_true.1 h1
  obtain ⟨L, rfl⟩ : ∃ L : Nat, letters = L := ⟨letters.toNat, by omega⟩
  obtain ⟨T, rfl⟩ : ∃ T : Nat, times = T := ⟨times.toNat, by omega⟩
  have HX : Hid (x = writOr (copyW L T)) := Lib.hid (by rw [← HX.out]; unfold copyWriter; rw [h1, decide_eq_true h2]; show (if 12 < (T : Int) then _ else _) = _; rw [if_neg h3]; rfl)
  have hL : L ≤ 3 := by omega
  have hL1 : 1 ≤ L := by omega
  have hT1 : 1 ≤ T := by omega
  have hT12 : T ≤ 12 := by omega
  clear h1 hb hl ht
  have w2T : IntKind.i64.wrap (2 * (T : Int)) = 2 * (T : Int) := IntWalk.i64_in _ ⟨by omega, by omega⟩
  have w2T1 : IntKind.i64.wrap (2 * (T : Int) - 1) = 2 * (T : Int) - 1 := IntWalk.i64_in _ ⟨by omega, by omega⟩
  have w2T2 : IntKind.i64.wrap (2 * (T : Int) - 2) = 2 * (T : Int) - 2 := IntWalk.i64_in _ ⟨by omega, by omega⟩
  replace S := (((S.alloc (cs := #[.int .i64 L, .int .i64 0, .slice none 0 0, .slice none 0 0]) (ty := 29)).nils movesE 60).nils strsE 50).sel [2, 3, 1, 0]
  go_wp2
  generalize hW : w1.alloc _ = w2 at S ⊢
  clear hW
  obtain ⟨g, hg⟩ : ∃ g, g = w1.heap.size := ⟨_, rfl⟩
  rw [← hg] at S ⊢
  clear hg
  go_loopw [7] (fun q wr => ∃ k : Nat, ∃ vm vo, k ≤ 2 * T - 1 ∧ q = .int .i64 k ∧ Star w wr [oB g [.int .i64 L, .int .i64 0, vm, vo] 29, oB w.heap.size [.int .i64 0, .int .i64 0, .slice none 0 0, .slice none 0 0] 29, oE movessE [vm] ((copyRows L T).take k), oE strssE [vo] ((copyTxts L T).take k)]) (fun q _ => 2 * T - 1 - (intOf q).toNat)
  case atStart => exact ⟨0, _, _, by omega, rfl, S⟩
  case round =>
    clear S
    obtain ⟨k, vm, vo, hk, rfl, S⟩ := hrel
    obtain ⟨ma, mn, mc, rfl⟩ := S.slc 2 rfl
    obtain ⟨oa, on, oc, rfl⟩ := S.slc 3 rfl
    have X0 := S.blk 0 rfl
    have c2 := X0.cell 2 rfl
    have c3 := X0.cell 3 rfl
    have fx := X0.free
    by_cases hlt : k < 2 * T - 1
    case neg =>
      obtain rfl : k = 2 * T - 1 := by omega
      have t5 : ¬ (((2 * T - 1 : Nat) : Int)) < 2 * (T : Int) - 1 := by omega
      have hlm : (copyRows L T).length = 2 * T - 1 := by simp [copyRows]
      have hlo : (copyTxts L T).length = 2 * T - 1 := by simp [copyTxts]
      rw [List.take_of_length_le (Nat.le_of_eq hlm), List.take_of_length_le (Nat.le_of_eq hlo)] at S
      clear hlm hlo
      have HRD := Lib.hid (rd_writE (r := copyW L T) (S.rd 2 rfl) (S.rd 3 rfl) ⟨by show (-9223372036854775808 : Int) ≤ (L : Int); omega, by show (L : Int) ≤ 9223372036854775807; omega⟩ bd0)
      have c0 := X0.cell 0 rfl
      have c1 := X0.cell 1 rfl
      cases hv : writerOk (copyW L T)
      case false =>
        obtain rfl : x = (default, 3) := by rw [HX.out]; unfold writOr; rw [hv]; rfl
        have HV := Lib.hid hv
        clear hv HX
        go_wp2_with fail
        refine (told_no _ (copyW L T) _ wr (Nat.le_refl _) HRD.out HV.out).mono ?_
        rintro e w5 ⟨rfl, b⟩
        replace S := S.step b
        have A0 := S.blk 1 rfl
        have d0 := A0.cell 0 rfl
        have d1 := A0.cell 1 rfl
        have d2 := A0.cell 2 rfl
        have d3 := A0.cell 3 rfl
        have df := A0.free
        go_wp2
        generalize hW : (((w5.setCell _ _).setCell _ _).setCell _ _).setCell _ _ = w9
        have S10 := (S.sel [1]).set4 rfl hW
        have A3 := S10.blk 0 rfl
        have q0 := A3.cell 0 rfl
        have q1 := A3.cell 1 rfl
        have q2 := A3.cell 2 rfl
        have q3 := A3.cell 3 rfl
        exact bodyPost_ret (v := .tuple #[.agg #[.int .i64 0, .int .i64 0, .slice none 0 0, .slice none 0 0], .int .i64 3]) (by simp [results, Tryz.results41, go_sem, q0, q1, q2, q3]) rfl (S10.flat (ow_Writer_zero _)).done
      case true =>
        obtain rfl : x = (copyW L T, 0) := by rw [HX.out]; unfold writOr; rw [hv]; rfl
        have HV := Lib.hid hv
        clear hv HX
        go_wp2_with fail
        refine (told_yes _ (copyW L T) _ wr (Nat.le_refl _) HRD.out HV.out).mono ?_
        rintro e w5 ⟨rfl, b⟩
        replace S := S.step b
        have A0 := S.blk 1 rfl
        have d0 := A0.cell 0 rfl
        have d1 := A0.cell 1 rfl
        have d2 := A0.cell 2 rfl
        have d3 := A0.cell 3 rfl
        have df := A0.free
        go_wp2
        generalize hW : (((w5.setCell _ _).setCell _ _).setCell _ _).setCell _ _ = w9
        have S10 := (S.sel [1, 2, 3]).set4 rfl hW
        have A3 := S10.blk 0 rfl
        have q0 := A3.cell 0 rfl
        have q1 := A3.cell 1 rfl
        have q2 := A3.cell 2 rfl
        have q3 := A3.cell 3 rfl
        exact bodyPost_ret (v := .tuple #[.agg #[.int .i64 L, .int .i64 0, .slice ma mn mc, .slice oa on oc], .int .i64 0]) (by simp [results, Tryz.results41, go_sem, q0, q1, q2, q3, copyW]) rfl (writ_done (x := copyW L T) (S10.sel [1, 2]) ⟨by show (-9223372036854775808 : Int) ≤ (L : Int); omega, by show (L : Int) ≤ 9223372036854775807; omega⟩ bd0)
    have t5 : (k : Int) < 2 * (T : Int) - 1 := by omega
    have hlm : ((copyRows L T).take k).length ≤ 1000000000000 := Nat.le_trans (List.length_take_le _ _) (by omega)
    have hlo : ((copyTxts L T).take k).length ≤ 1000000000000 := Nat.le_trans (List.length_take_le _ _) (by omega)
    have HM := Lib.hid (take_range_map (copyRow L T) (2 * T - 1) k hlt)
    have HO := Lib.hid (take_range_map (copyTxt L) (2 * T - 1) k hlt)
    have wk1 : IntKind.i64.wrap ((k : Int) + 1) = (k : Int) + 1 := IntWalk.i64_in _ ⟨by omega, by omega⟩
    by_cases hpar : k % 2 = 1
    case pos =>
      have hlast : ¬ k = 2 * T - 2 := by omega
      have r1 : (k : Int).tmod 2 = 1 := by rw [show (k : Int).tmod 2 = ((k % 2 : Nat) : Int) from rfl, hpar]; rfl
      have r2 : (k : Int) % 2 = 1 := by omega
      have tl : ((k : Int) == 2 * (T : Int) - 2) = false := by simp; omega
      have SA := (S.alloc (cs := #[.int .i64 ((k : Int) + 1), .int .i64 1]) (ty := 75)).sel [0, 1, 2, 3, 4]
      go_wp2_with fail
      generalize hW : wr.alloc _ = w3 at SA ⊢
      clear hW
      refine (passO L k ((k : Int) + 1) 1 hL (by omega) ⟨by omega, by omega⟩ ⟨by omega, by omega⟩ _).mono ?_
      rintro e w4 ⟨v1, v2, f2, rfl, o2, nd2, lo2, b2⟩
      have hrow : List.replicate L (⟨k, -1⟩ : Move) ++ [⟨((k : Int) + 1), 1⟩, ⟨k, -1⟩] = copyRow L T k := by unfold copyRow copyOn copyEnd; rw [if_pos hpar, if_pos hpar, if_neg hlast, if_pos hpar]
      have htxt : noStr L = copyTxt L k := by unfold copyTxt; rw [if_pos hpar]
      rw [hrow, htxt] at o2
      have S4 := ((SA.made o2 nd2 lo2 b2).unpair rfl).sel [0, 1, 3, 4, 5, 6]
      obtain ⟨va, vn, vc, rfl⟩ := S4.slc 0 rfl
      obtain ⟨ua, un, uc, rfl⟩ := S4.slc 1 rfl
      clear S SA o2 nd2 lo2 b2 hrow htxt c2 c3
      have X4 := S4.blk 2 rfl
      have c2 := fun o => cell_al (X4.cell 2 rfl) o
      have c2b := X4.cell 2 rfl
      have fxa := fun o i => (X4.alloc o).free i
      have fxb := X4.free
      clear X4
      have SC := (S4.alloc (cs := #[.slice va vn vc]) (ty := 60)).sel [5, 1, 3, 4, 6, 2]
      go_upto_region 17 with (at_builtin; refine st1_MoveSS SC rfl rfl rfl rfl cell_a1 (one_mem rfl) hlm ?_; intro ta tn tc w9 S9; have X9 := S9.blk 1 rfl; have c2 := X9.cell 2 rfl; have fx9 := X9.free)
      clear c2 c2b fxa fxb
      generalize hW : w9.setCell _ _ = w10
      have S10 := (S9.sel [1, 2, 0, 3, 4]).set 2 (.slice ta tn tc)
      rw [hW] at S10
      clear hW S9 SC S4
      have X4 := S10.blk 0 rfl
      have c3 := fun o => cell_al (X4.cell 3 rfl) o
      have c3b := X4.cell 3 rfl
      have fxa := fun o i => (X4.alloc o).free i
      have fxb := X4.free
      clear X4
      have SC := (S10.alloc (cs := #[.slice ua un uc]) (ty := 50)).sel [4, 5, 1, 2, 3]
      go_wp2_with (at_builtin; refine st1_StringSS SC rfl rfl rfl rfl cell_a1 (one_mem rfl) hlo ?_; intro ja jn jc w11 S11; have X9 := S11.blk 1 rfl; have c3 := X9.cell 3 rfl; have fx9 := X9.free)
      have S12 := (S11.sel [1, 2, 3, 0]).set 3 (.slice ja jn jc)
      go_roundw
      case rel => exact ⟨k + 1, _, _, by omega, by go_num, by unfold copyRows copyTxts at S12 ⊢; rw [HM.out, HO.out]; exact S12⟩
      case measure => simp [intOf]; omega
    have hpar0 : k % 2 = 0 := by omega
    have r1 : (k : Int).tmod 2 = 0 := by rw [show (k : Int).tmod 2 = ((k % 2 : Nat) : Int) from rfl, hpar0]; rfl
    have r2 : (k : Int) % 2 = 0 := by omega
    by_cases hlast : k = 2 * T - 2
    case pos =>
      have tl : ((k : Int) == 2 * (T : Int) - 2) = true := by simp; omega
      have HLAST := Lib.hid hlast; clear hlast
      have SA := (S.alloc (cs := #[.int .i64 (-1), .int .i64 0]) (ty := 75)).sel [0, 1, 2, 3, 4]
      go_wp2_with fail
      generalize hW : wr.alloc _ = w3 at SA ⊢
      clear hW
      refine (passE L k (-1) 0 hL (by omega) ⟨by omega, by omega⟩ ⟨by omega, by omega⟩ _).mono ?_
      rintro e w4 ⟨v1, v2, f2, rfl, o2, nd2, lo2, b2⟩
      have hrow : List.replicate L (⟨k, 1⟩ : Move) ++ [⟨k, 1⟩, ⟨(-1), 0⟩] = copyRow L T k := by unfold copyRow copyOn copyEnd; rw [if_neg hpar, if_neg hpar, if_pos HLAST.out]
      have htxt : allStr L = copyTxt L k := by unfold copyTxt; rw [if_neg hpar]
      rw [hrow, htxt] at o2
      have S4 := ((SA.made o2 nd2 lo2 b2).unpair rfl).sel [0, 1, 3, 4, 5, 6]
      obtain ⟨va, vn, vc, rfl⟩ := S4.slc 0 rfl
      obtain ⟨ua, un, uc, rfl⟩ := S4.slc 1 rfl
      clear S SA o2 nd2 lo2 b2 hrow htxt c2 c3
      have X4 := S4.blk 2 rfl
      have c2 := fun o => cell_al (X4.cell 2 rfl) o
      have c2b := X4.cell 2 rfl
      have fxa := fun o i => (X4.alloc o).free i
      have fxb := X4.free
      clear X4
      have SC := (S4.alloc (cs := #[.slice va vn vc]) (ty := 60)).sel [5, 1, 3, 4, 6, 2]
      go_upto_region 17 with (at_builtin; refine st1_MoveSS SC rfl rfl rfl rfl cell_a1 (one_mem rfl) hlm ?_; intro ta tn tc w9 S9; have X9 := S9.blk 1 rfl; have c2 := X9.cell 2 rfl; have fx9 := X9.free)
      clear c2 c2b fxa fxb
      generalize hW : w9.setCell _ _ = w10
      have S10 := (S9.sel [1, 2, 0, 3, 4]).set 2 (.slice ta tn tc)
      rw [hW] at S10
      clear hW S9 SC S4
      have X4 := S10.blk 0 rfl
      have c3 := fun o => cell_al (X4.cell 3 rfl) o
      have c3b := X4.cell 3 rfl
      have fxa := fun o i => (X4.alloc o).free i
      have fxb := X4.free
      clear X4
      have SC := (S10.alloc (cs := #[.slice ua un uc]) (ty := 50)).sel [4, 5, 1, 2, 3]
      go_wp2_with (at_builtin; refine st1_StringSS SC rfl rfl rfl rfl cell_a1 (one_mem rfl) hlo ?_; intro ja jn jc w11 S11; have X9 := S11.blk 1 rfl; have c3 := X9.cell 3 rfl; have fx9 := X9.free)
      have S12 := (S11.sel [1, 2, 3, 0]).set 3 (.slice ja jn jc)
      go_roundw
      case rel => exact ⟨k + 1, _, _, by omega, by go_num, by unfold copyRows copyTxts at S12 ⊢; rw [HM.out, HO.out]; exact S12⟩
      case measure => simp [intOf]; omega
    have tl : ((k : Int) == 2 * (T : Int) - 2) = false := by simp; omega
    have SA := (S.alloc (cs := #[.int .i64 ((k : Int) + 1), .int .i64 (-1)]) (ty := 75)).sel [0, 1, 2, 3, 4]
    go_wp2_with fail
    generalize hW : wr.alloc _ = w3 at SA ⊢
    clear hW
    refine (passE L k ((k : Int) + 1) (-1) hL (by omega) ⟨by omega, by omega⟩ ⟨by omega, by omega⟩ _).mono ?_
    rintro e w4 ⟨v1, v2, f2, rfl, o2, nd2, lo2, b2⟩
    have hrow : List.replicate L (⟨k, 1⟩ : Move) ++ [⟨k, 1⟩, ⟨((k : Int) + 1), (-1)⟩] = copyRow L T k := by unfold copyRow copyOn copyEnd; rw [if_neg hpar, if_neg hpar, if_neg hlast, if_neg hpar]
    have htxt : allStr L = copyTxt L k := by unfold copyTxt; rw [if_neg hpar]
    rw [hrow, htxt] at o2
    have S4 := ((SA.made o2 nd2 lo2 b2).unpair rfl).sel [0, 1, 3, 4, 5, 6]
    obtain ⟨va, vn, vc, rfl⟩ := S4.slc 0 rfl
    obtain ⟨ua, un, uc, rfl⟩ := S4.slc 1 rfl
    clear S SA o2 nd2 lo2 b2 hrow htxt c2 c3
    have X4 := S4.blk 2 rfl
    have c2 := fun o => cell_al (X4.cell 2 rfl) o
    have c2b := X4.cell 2 rfl
    have fxa := fun o i => (X4.alloc o).free i
    have fxb := X4.free
    clear X4
    have SC := (S4.alloc (cs := #[.slice va vn vc]) (ty := 60)).sel [5, 1, 3, 4, 6, 2]
    go_upto_region 17 with (at_builtin; refine st1_MoveSS SC rfl rfl rfl rfl cell_a1 (one_mem rfl) hlm ?_; intro ta tn tc w9 S9; have X9 := S9.blk 1 rfl; have c2 := X9.cell 2 rfl; have fx9 := X9.free)
    clear c2 c2b fxa fxb
    generalize hW : w9.setCell _ _ = w10
    have S10 := (S9.sel [1, 2, 0, 3, 4]).set 2 (.slice ta tn tc)
    rw [hW] at S10
    clear hW S9 SC S4
    have X4 := S10.blk 0 rfl
    have c3 := fun o => cell_al (X4.cell 3 rfl) o
    have c3b := X4.cell 3 rfl
    have fxa := fun o i => (X4.alloc o).free i
    have fxb := X4.free
    clear X4
    have SC := (S10.alloc (cs := #[.slice ua un uc]) (ty := 50)).sel [4, 5, 1, 2, 3]
    go_wp2_with (at_builtin; refine st1_StringSS SC rfl rfl rfl rfl cell_a1 (one_mem rfl) hlo ?_; intro ja jn jc w11 S11; have X9 := S11.blk 1 rfl; have c3 := X9.cell 3 rfl; have fx9 := X9.free)
    have S12 := (S11.sel [1, 2, 3, 0]).set 3 (.slice ja jn jc)
    go_roundw
    case rel => exact ⟨k + 1, _, _, by omega, by go_num, by unfold copyRows copyTxts at S12 ⊢; rw [HM.out, HO.out]; exact S12⟩
    case measure => simp [intOf]; omega

end Go.Proofs.YtfamhnogpcmbmaaGreatDoor
