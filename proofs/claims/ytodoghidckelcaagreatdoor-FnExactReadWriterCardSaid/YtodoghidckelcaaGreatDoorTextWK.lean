/-
  WriterText of the program (written by a program of this claim's own, gen_text.py).
-/
import Derived.Test.YtodoghidckelcaaGreatDoorTextTK
import Derived.Test.YtodoghidckelcaaGreatDoorToldK
namespace Go.Proofs.YtodoghidckelcaaGreatDoor
open Go.RowKit

theorem empty_list (x : ByteArray) : (x.toList == ([] : List UInt8)) = decide (x = ⟨#[]⟩) := by
  rw [Bool.eq_iff_iff, beq_iff_eq, decide_eq_true_eq, ByteArray.toList_eq]
  obtain ⟨⟨l⟩⟩ := x
  simp

set_option maxHeartbeats 4000000 in
set_option maxRecDepth 100000 in
theorem writText_any (cs : List Value) (r : Writer) (B : Nat) (w : World) (hB0 : B ≤ w.heap.size) (h : writE.rd w B cs r) (hT : Pow10 w.heap.size w) : Calls Tryz.prog 17 #[.agg cs.toArray] w (Gives (.string (writText r)) w) := by
  have RA := Lib.hid h
  have HT := Lib.hid hT
  obtain ⟨v2, v3, rfl, h2, h3⟩ := rd_Writer h
  have HTU := Lib.hid h2
  obtain ⟨Lt, hLt⟩ : ∃ k, k = r.turner.letters := ⟨_, rfl⟩
  obtain ⟨St, hSt⟩ : ∃ k, k = r.turner.start := ⟨_, rfl⟩
  cases hv : writerOk r
  case false =>
    have hr : writText r = ⟨#[]⟩ := by unfold writText; rw [hv]; rfl
    have HR := Lib.hid hr; have HV := Lib.hid hv
    rw [← hLt, ← hSt] at RA ⊢
    clear hr hv h h2 h3 hT hLt hSt HTU
    go_enter Tryz.func17, Tryz.ntmps17
    go_wp2_with fail
    generalize hW : w.alloc _ = w0
    obtain ⟨A0, B0⟩ := blk1 hW
    clear hW
    refine (validWriter_is false _ r B w0 (Nat.le_trans hB0 B0.size) (writE.rd_of (B0.mono hB0) RA.out) HV.out).mono ?_
    rintro e w1 ⟨rfl, b1⟩
    have B1 := B0.trans (b1.mono B0.size)
    clear b1 B0 A0
    go_wp2
    go_ret
    exact ⟨by rw [HR.out]; rfl, B1⟩
  have K := writOk_of hv
  have hr : writText r = ⟨(writL r).toArray⟩ := by unfold writText; rw [hv, if_pos rfl]
  obtain ⟨pa, pc, rfl, p1, p2, -, p4⟩ := rd_slice1 rfl h3
  obtain ⟨n, hn⟩ : ∃ n, n = r.out.length := ⟨_, rfl⟩
  have hn12 : n ≤ 12 := by rw [hn, K.n]; exact K.t.n12
  have htt : turnText r.turner = ⟨(turnL r.turner).toArray⟩ := by unfold turnText; rw [K.v, if_pos rfl]
  obtain ⟨hd, hhd⟩ : ∃ x, x = turnL r.turner := ⟨_, rfl⟩
  have hhl : hd.length ≤ 379 := by rw [hhd]; exact K.t.turnL_le
  obtain ⟨tt, htt2⟩ : ∃ x, x = turnText r.turner := ⟨_, rfl⟩
  have htl : tt.data.toList = hd := by rw [htt2, htt, hhd]
  have htz : tt.size ≤ 379 := by rw [htt2]; exact turnText_size _
  have hvw := fun w' a (b : writE.rd w' B [.int .i64 r.turner.letters, .int .i64 r.turner.start, v2, .slice pa r.out.length pc] r) => Lib.hid (validWriter_is true _ r B w' a b hv)
  have htx := fun w' a (b : turnE.rd w' B [.int .i64 r.turner.letters, .int .i64 r.turner.start, v2] r.turner) c => Lib.hid (turnText_any _ r.turner B w' a b c)
  rw [← hLt, ← hSt, ← hn] at RA hvw ⊢
  rw [← hLt, ← hSt, ← htt2] at htx
  rw [← hLt, ← hSt] at HTU
  rw [← hn] at p1 p4
  have HK := Lib.hid K; have HN := Lib.hid hn; have HHD := Lib.hid hhd; have HR := Lib.hid hr; have HTL := Lib.hid htl
  have P4 := Lib.hid p4
  clear K hn hhd hr h h2 h3 p4 hv hT hLt hSt htt htt2 htl
  go_enter Tryz.func17, Tryz.ntmps17
  go_wp2_with fail
  generalize hW : w.alloc _ = w0
  obtain ⟨A0, B0⟩ := blk1 hW
  clear hW
  refine (hvw w0 (Nat.le_trans hB0 B0.size) (writE.rd_of (B0.mono hB0) RA.out)).out.mono ?_
  rintro e w1 ⟨rfl, b1⟩
  have A1 := A0.of b1 A0.lt
  have B1 := B0.trans (b1.mono B0.size)
  clear b1 B0 A0 hvw
  have A2 := A1.alloc (.cells #[.pointer none, .slice none 0 0] 70)
  have c0 := A2.cell 0 rfl
  have c1 := A2.cell 1 rfl
  have c2 := A2.cell 2 rfl
  go_wp2_with fail
  have HB := Bld.new w1
  have B2 := B1.alloc B1.size (.cells #[.pointer none, .slice none 0 0] 70)
  have hbb : w1.heap.size ≤ (w1.alloc (.cells #[.pointer none, .slice none 0 0] 70)).heap.size := by simp
  have hal := A1.lt
  have hwb : w.heap.size ≤ w1.heap.size := B1.size
  clear c0 c1 c2
  obtain ⟨bb, hbb2⟩ : ∃ x, x = w1.heap.size := ⟨_, rfl⟩
  rw [← hbb2] at HB hbb hal hwb ⊢
  generalize hW : w1.alloc _ = w2 at HB A2 B2 hbb ⊢
  clear hW A1 B1 hbb2
  refine (htx w2 (Nat.le_trans hB0 B2.size) (turnE.rd_of (B2.mono hB0) HTU.out) ((HT.out.step B2).up B2.size)).out.mono ?_
  rintro e w3 ⟨rfl, b3⟩
  have HB3 := Lib.hid (HB.step b3)
  have HA3 := Lib.hid (A2.of b3 A2.lt)
  have B3 := B2.trans (b3.mono B2.size)
  have hb3 : bb ≤ w3.heap.size := Nat.le_trans hbb b3.size
  clear HB A2 B2 hbb b3 htx
  go_wp2_with fail
  refine (writeStr_any bb bb [] tt w3 HB3.out (by simp only [List.length_nil]; omega) hb3).mono ?_
  rintro e w8 ⟨rfl, hb8, B8⟩
  replace hb8 : Bld bb bb hd w8 := by
    rw [HTL.out] at hb8
    exact hb8
  have HA8 := HA3.out.of B8 hal
  have hbz : bb ≤ w8.heap.size := Nat.le_trans hb3 B8.size
  have HBW := Lib.hid (B3.trans (B8.mono hwb))
  clear HB3 HA3 B3 B8 hb3
  have e0 := HA8.cell 3 rfl
  go_wp2
  clear e0 HA8
  go_loopw [18] (fun i wr => ∃ k : Nat, k ≤ n ∧ i = .int .i64 k ∧ Bld bb bb (hd ++ (r.out.take k).flatMap olineL) wr ∧ Below bb w8 wr) (fun i _ => n - (intOf i).toNat)
  case atStart => exact ⟨0, by omega, rfl, by simpa using hb8, Below.refl _ _⟩
  case round =>
    clear hb8
    obtain ⟨k, hk, rfl, hb, BR⟩ := hrel
    have BW := HBW.out.trans (BR.mono hwb)
    have hbr : bb ≤ wr.heap.size := Nat.le_trans hbz BR.size
    have HB := Lib.hid hb
    clear hb
    obtain ⟨pre, hpre⟩ : ∃ x, x = hd ++ (r.out.take k).flatMap olineL := ⟨_, rfl⟩
    have hpl : pre.length ≤ 667 := by rw [hpre, List.length_append]; have := HK.out.lines_le k; omega
    rw [← hpre] at HB
    have HPRE := Lib.hid hpre
    clear hpre
    by_cases hlt : k < n
    case neg =>
      obtain rfl : n = k := by omega
      have hfull : pre = writL r := by rw [HPRE.out, HHD.out, HN.out, List.take_length]; rfl
      have HFULL := Lib.hid hfull
      clear hfull
      go_wp2_with fail
      refine (bldString_any bb bb pre wr HB.out hbr).mono ?_
      rintro e wz ⟨rfl, bz⟩
      go_wp2
      go_ret
      exact ⟨by rw [HR.out, HFULL.out]; rfl, BW.trans (bz.mono hwb)⟩
    obtain ⟨rb, ro, vk, rfl, hrb, hrc, hrd⟩ := P4.out k hlt
    have hmem : r.out[k]?.getD default ∈ r.out := mem_getD (by rw [← HN.out]; exact hlt)
    have hst := flatMap_takeS olineL r.out k (by rw [← HN.out]; exact hlt)
    obtain ⟨row, hrow⟩ : ∃ x, x = r.out[k]?.getD default := ⟨_, rfl⟩
    rw [← hrow] at hrd hmem hst
    obtain ⟨ma, mc, rfl, m1, m2, -, m4⟩ := rd_strs hrd
    obtain ⟨rn, hrn⟩ : ∃ x, x = row.length := ⟨_, rfl⟩
    have hr5 : rn ≤ 5 := by rw [hrn]; exact HK.out.len hmem
    have hmv : ∀ j, j < row.length → (row[j]?.getD ByteArray.empty).size ≤ 3 := fun j hj => by
      rw [List.getElem?_eq_getElem hj]
      exact HK.out.sz hmem (List.getElem_mem hj)
    have hrl : ∀ j, ((row.take j).flatMap outL).length ≤ 20 := fun j => HK.out.orow_le hmem j
    rw [← hrn] at m1 m4 hrc hmv
    have cr := (BW.cell (World.block_lt_of_cell? w _ hrc)).trans hrc
    have HST := Lib.hid hst; have HMV := Lib.hid hmv; have HRL := Lib.hid hrl; have M4 := Lib.hid m4; have HRN := Lib.hid hrn
    clear hst hmem hrow hrd m4 hrn hrc hmv hrl
    go_wp2_with fail
    refine (writeStr_any bb bb pre (⟨#[111, 117, 116]⟩ : ByteArray) wr HB.out (by show pre.length + 3 ≤ 1000000; omega) hbr).mono ?_
    rintro e w9 ⟨rfl, hb9, B9⟩
    replace hb9 : Bld bb bb (pre ++ [111, 117, 116]) w9 := hb9
    have HBW9 := Lib.hid (BW.trans (B9.mono hwb))
    have hb9z : bb ≤ w9.heap.size := Nat.le_trans hbr B9.size
    have BR9 := BR.trans B9
    clear cr BW B9 HB BR
    go_wp2
    go_loopw [25] (fun j wr => ∃ i : Nat, i ≤ rn ∧ j = .int .i64 i ∧ Bld bb bb (pre ++ [111, 117, 116] ++ (row.take i).flatMap outL) wr ∧ Below bb w9 wr) (fun j _ => rn - (intOf j).toNat)
    case atStart => exact ⟨0, by omega, rfl, by simpa using hb9, Below.refl _ _⟩
    case round =>
      clear hb9
      obtain ⟨i, hi, rfl, hb, BI⟩ := hrel
      have BWI := HBW9.out.trans (BI.mono hwb)
      have hbi : bb ≤ wr.heap.size := Nat.le_trans hb9z BI.size
      have HB := Lib.hid hb
      clear hb
      obtain ⟨pr2, hpr2⟩ : ∃ x, x = pre ++ [111, 117, 116] ++ (row.take i).flatMap outL := ⟨_, rfl⟩
      have hpl2 : pr2.length ≤ 690 := by
        rw [hpr2]
        have := HRL.out i
        simp only [List.length_append, List.length_cons, List.length_nil]
        omega
      rw [← hpr2] at HB
      have HPR2 := Lib.hid hpr2
      clear hpr2
      by_cases hil : i < rn
      case neg =>
        obtain rfl : rn = i := by omega
        go_wp2_with fail
        refine (writeStr_any bb bb pr2 (⟨#[10]⟩ : ByteArray) wr HB.out (by show pr2.length + 1 ≤ 1000000; omega) hbi).mono ?_
        rintro e wj ⟨rfl, hbj, Bj⟩
        replace hbj : Bld bb bb (pr2 ++ [10]) wj := hbj
        have hnew : pr2 ++ [10] = hd ++ (r.out.take (k + 1)).flatMap olineL := by
          rw [HST.out, HPR2.out, HPRE.out, HRN.out, List.take_length]
          unfold olineL
          simp only [List.append_assoc]
        rw [hnew] at hbj
        have HBJ := Lib.hid hbj
        clear hbj hnew
        go_wp2
        go_roundw
        case rel => exact ⟨k + 1, by omega, by go_num, HBJ.out, (BR9.trans BI).trans Bj⟩
        case measure => simp [intOf]; omega
      obtain ⟨sb, so, rfl, -, hm0, -⟩ := M4.out i hil
      have hst2 : (row.take (i + 1)).flatMap outL = (row.take i).flatMap outL ++ outL (row[i]?.getD ByteArray.empty) := by
        have hi2 : i < row.length := by rw [← HRN.out]; exact hil
        rw [List.take_succ_eq_append_getElem hi2, List.flatMap_append, List.getElem?_eq_getElem hi2]
        simp
      have hmo := HMV.out i hil
      obtain ⟨mv, hmv⟩ : ∃ x, x = row[i]?.getD ByteArray.empty := ⟨_, rfl⟩
      rw [← hmv] at hm0 hst2 hmo
      have q0 := (BWI.cell (World.block_lt_of_cell? w _ hm0)).trans hm0
      have HST2 := Lib.hid hst2
      clear hst2 hmv hm0
      by_cases hx : mv = ⟨#[]⟩
      case pos =>
        subst hx
        go_wp2_with fail
        refine (writeStr_any bb bb pr2 (⟨#[32, 45]⟩ : ByteArray) wr HB.out (by show pr2.length + 2 ≤ 1000000; omega) hbi).mono ?_
        rintro e wm ⟨rfl, hbm, Bm⟩
        replace hbm : Bld bb bb (pr2 ++ [32, 45]) wm := hbm
        have hnew : pr2 ++ [32, 45] = pre ++ [111, 117, 116] ++ (row.take (i + 1)).flatMap outL := by
          rw [HST2.out, HPR2.out]
          simp only [List.append_assoc]
          rfl
        rw [hnew] at hbm
        have HBM := Lib.hid hbm
        clear hbm hnew q0
        go_wp2
        go_roundw
        case rel => exact ⟨i + 1, by omega, by go_num, HBM.out, BI.trans Bm⟩
        case measure => simp [intOf]; omega
      case neg =>
        have tx : (mv.toList == []) = false := by rw [empty_list, decide_eq_false hx]
        have tx2 : ¬ mv.toList = [] := by intro e; rw [e] at tx; cases tx
        have tx3 : mv.toList.isEmpty = false := by cases he : mv.toList with | nil => exact absurd he tx2 | cons a l => rfl
        have s3 : ¬ (9223372036854775807 < 1 + mv.size) := by omega
        have H4 := Lib.hid (show ((⟨#[32]⟩ : ByteArray) ++ mv).size ≤ 4 by
          rw [ByteArray.size_append]
          have e1 : (⟨#[32]⟩ : ByteArray).size = 1 := rfl
          omega)
        have HX := Lib.hid hx
        clear hx
        go_wp2_with fail
        refine (writeStr_any bb bb pr2 ((⟨#[32]⟩ : ByteArray) ++ mv) wr HB.out (by have := H4.out; omega) hbi).mono ?_
        rintro e wm ⟨rfl, hbm, Bm⟩
        have hnew : pr2 ++ ((⟨#[32]⟩ : ByteArray) ++ mv).data.toList = pre ++ [111, 117, 116] ++ (row.take (i + 1)).flatMap outL := by
          rw [HST2.out, HPR2.out]
          have : ((⟨#[32]⟩ : ByteArray) ++ mv).data.toList = outL mv := by
            unfold outL
            rw [if_neg HX.out]
            simp
          rw [this]
          simp only [List.append_assoc]
        rw [hnew] at hbm
        have HBM := Lib.hid hbm
        clear hbm hnew tx tx2 tx3 q0
        go_wp2
        go_roundw
        case rel => exact ⟨i + 1, by omega, by go_num, HBM.out, BI.trans Bm⟩
        case measure => simp [intOf]; omega

end Go.Proofs.YtodoghidckelcaaGreatDoor
