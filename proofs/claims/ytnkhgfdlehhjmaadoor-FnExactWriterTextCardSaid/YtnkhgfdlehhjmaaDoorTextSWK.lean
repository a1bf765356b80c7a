/-
  WriterText of the reference (written by a program of this claim's own, gen_text.py).
-/
import Derived.Test.YtnkhgfdlehhjmaaDoorTextSTK
import Derived.Test.YtnkhgfdlehhjmaaDoorTextWK
namespace Go.Proofs.YtnkhgfdlehhjmaaDoor
open Go.RowKit

set_option maxHeartbeats 4000000 in
set_option maxRecDepth 100000 in
theorem specWritText_any (cs : List Value) (r : Writer) (B : Nat) (w : World) (hB0 : B ≤ w.heap.size) (h : writE.rd w B cs r) : Calls Tryd.prog 6 #[.agg cs.toArray] w (Gives (.string (writText r)) w) := by
  have RA := Lib.hid h
  obtain ⟨v2, v3, rfl, h2, h3⟩ := rd_Writer h
  obtain ⟨v2', he, -, -, k2⟩ := rd_Turner h2
  obtain rfl : v2 = v2' := by simpa using he
  have HTU := Lib.hid h2
  have HK2 := Lib.hid k2
  have HK3 := Lib.hid h3
  clear he
  obtain ⟨Lt, hLt⟩ : ∃ k, k = r.turner.letters := ⟨_, rfl⟩
  obtain ⟨St, hSt⟩ : ∃ k, k = r.turner.start := ⟨_, rfl⟩
  cases hv : writerOk r
  case false =>
    have hr : writText r = ⟨#[]⟩ := by unfold writText; rw [hv]; rfl
    have HR := Lib.hid hr
    have hvw := fun w' g a (A : Blk w' g [.int .i64 r.turner.letters, .int .i64 r.turner.start, v2, v3] 34) b c => Lib.hid (l07Ok_is false v2 v3 r B g w' a A b c hv)
    rw [← hLt, ← hSt] at hvw ⊢
    clear hr hv h h2 h3 k2 hLt hSt HTU RA
    go_enter Tryd.func6, Tryd.ntmps6
    go_wp2_with fail
    generalize hW : w.alloc _ = w0
    obtain ⟨A0, B0⟩ := blk1 hW
    clear hW
    refine (hvw w0 w.heap.size (Nat.le_trans hB0 B0.size) A0 (movessE.rd_of (B0.mono hB0) HK2.out) (strssE.rd_of (B0.mono hB0) HK3.out)).out.mono ?_
    rintro e w1 ⟨rfl, b1⟩
    have B1 := B0.trans (b1.mono B0.size)
    clear b1 B0 A0
    go_wp2
    go_ret
    exact ⟨by rw [HR.out]; rfl, B1⟩
  have K := writOk_of hv
  have hr : writText r = ⟨(writL r).toArray⟩ := by unfold writText; rw [hv, if_pos rfl]
  obtain ⟨pa, pc, rfl, p1, p2, -, p4⟩ := rd_slice1 rfl h3
  obtain ⟨n, hn⟩ : ∃ n, n = r.out.length := ⟨_, rfl⟩
  have hn12 : n ≤ 12 := by rw [hn, K.n]; exact K.t.n12
  have htt : turnText r.turner = ⟨(turnL r.turner).toArray⟩ := by unfold turnText; rw [K.v, if_pos rfl]
  obtain ⟨hd, hhd⟩ : ∃ x, x = turnL r.turner := ⟨_, rfl⟩
  have hhl : hd.length ≤ 379 := by rw [hhd]; exact K.t.turnL_le
  obtain ⟨tt, htt2⟩ : ∃ x, x = turnText r.turner := ⟨_, rfl⟩
  have htl : tt.data.toList = hd := by rw [htt2, htt, hhd]
  have hvw := fun w' g a (A : Blk w' g [.int .i64 r.turner.letters, .int .i64 r.turner.start, v2, .slice pa r.out.length pc] 34) b c => Lib.hid (l07Ok_is true v2 (.slice pa r.out.length pc) r B g w' a A b c hv)
  have htx := fun w' a (b : turnE.rd w' B [.int .i64 r.turner.letters, .int .i64 r.turner.start, v2] r.turner) => Lib.hid (specTurnText_any _ r.turner B w' a b)
  rw [← hLt, ← hSt, ← hn] at hvw ⊢
  rw [← hLt, ← hSt, ← htt2] at htx
  rw [← hLt, ← hSt] at HTU
  rw [← hn] at p1 p4 HK3
  have HK := Lib.hid K; have HN := Lib.hid hn; have HHD := Lib.hid hhd; have HR := Lib.hid hr; have HTL := Lib.hid htl
  have P4 := Lib.hid p4
  clear K hn hhd hr h h2 h3 k2 p4 hv hLt hSt htt htt2 htl RA
  go_enter Tryd.func6, Tryd.ntmps6
  go_wp2_with fail
  generalize hW : w.alloc _ = w0
  obtain ⟨A0, B0⟩ := blk1 hW
  clear hW
  refine (hvw w0 w.heap.size (Nat.le_trans hB0 B0.size) A0 (movessE.rd_of (B0.mono hB0) HK2.out) (strssE.rd_of (B0.mono hB0) HK3.out)).out.mono ?_
  rintro e w1 ⟨rfl, b1⟩
  have A1 := A0.of b1 A0.lt
  have B1 := B0.trans (b1.mono B0.size)
  clear b1 B0 A0 hvw
  have c0 := A1.cell 0 rfl
  have c1 := A1.cell 1 rfl
  have c2 := A1.cell 2 rfl
  go_wp2_with fail
  refine (htx w1 (Nat.le_trans hB0 B1.size) (turnE.rd_of (B1.mono hB0) HTU.out)).out.mono ?_
  rintro e w8 ⟨rfl, b8⟩
  have HA8 := Lib.hid (A1.of b8 A1.lt)
  have HBW := Lib.hid (B1.trans (b8.mono B1.size))
  clear A1 B1 b8 htx c0 c1 c2
  go_wp2
  go_loopw [3, 4] (fun o i wr => ∃ (k : Nat) (x : ByteArray), k ≤ n ∧ o = .string x ∧ i = .int .i64 k ∧ Hid (x.data.toList = hd ++ (r.out.take k).flatMap olineL) ∧ Below w8.heap.size w8 wr) (fun _ i _ => n - (intOf i).toNat)
  case atStart => exact ⟨0, tt, by omega, rfl, rfl, Lib.hid (by rw [HTL.out]; simp), Below.refl _ _⟩
  case round =>
    obtain ⟨k, x, hk, rfl, rfl, HX, BR⟩ := hrel
    have BW := HBW.out.trans (BR.mono HBW.out.size)
    have A := HA8.out.of BR HA8.out.lt
    have hxl : x.size ≤ 667 := by
      rw [← toNat_dec, HX.out, List.length_append]
      have := HK.out.lines_le k
      omega
    have c3 := A.cell 3 rfl
    by_cases hlt : k < n
    case neg =>
      obtain rfl : n = k := by omega
      have hfull : x = ⟨(writL r).toArray⟩ := arr_of (by rw [HX.out, HHD.out, HN.out, List.take_length]; rfl)
      have HFULL := Lib.hid hfull
      clear hfull
      go_wp2
      go_ret
      exact ⟨by rw [HR.out, ← HFULL.out]; rfl, BW⟩
    obtain ⟨rb, ro, vk, rfl, hrb, hrc, hrd⟩ := P4.out k hlt
    have hmem : r.out[k]?.getD default ∈ r.out := mem_getD (by rw [← HN.out]; exact hlt)
    have hst := flatMap_takeS olineL r.out k (by rw [← HN.out]; exact hlt)
    obtain ⟨row, hrow⟩ : ∃ x, x = r.out[k]?.getD default := ⟨_, rfl⟩
    rw [← hrow] at hrd hmem hst
    obtain ⟨ma, mc, rfl, m1, m2, -, m4⟩ := rd_strs hrd
    obtain ⟨rn, hrn⟩ : ∃ x, x = row.length := ⟨_, rfl⟩
    have hr5 : rn ≤ 5 := by rw [hrn]; exact HK.out.len hmem
    have hmv : ∀ j, j < row.length → (row[j]?.getD ByteArray.empty).size ≤ 3 := fun j hj => by
      rw [List.getElem?_eq_getElem hj]
      exact HK.out.sz hmem (List.getElem_mem hj)
    have hrl : ∀ j, ((row.take j).flatMap outL).length ≤ 20 := fun j => HK.out.orow_le hmem j
    rw [← hrn] at m1 m4 hrc hmv
    have cr := (BW.cell (World.block_lt_of_cell? w _ hrc)).trans hrc
    have HST := Lib.hid hst; have HMV := Lib.hid hmv; have HRL := Lib.hid hrl; have M4 := Lib.hid m4; have HRN := Lib.hid hrn; have HRC := Lib.hid hrc
    clear hst hmem hrow hrd m4 hrn hrc hmv hrl
    have sx : ¬ (9223372036854775807 < x.size + 3) := by omega
    have HBR := Lib.hid BR
    go_wp2
    clear sx c3 cr A BW BR
    go_loopw [3, 5] (fun o j wr => ∃ (i : Nat) (y : ByteArray), i ≤ rn ∧ o = .string y ∧ j = .int .i64 i ∧ Hid (y.data.toList = x.data.toList ++ [111, 117, 116] ++ (row.take i).flatMap outL) ∧ Below w8.heap.size w8 wr) (fun _ j _ => rn - (intOf j).toNat)
    case atStart => exact ⟨0, x ++ (⟨#[111, 117, 116]⟩ : ByteArray), by omega, rfl, rfl, Lib.hid (by simp), HBR.out⟩
    case round =>
      obtain ⟨i, y, hi, rfl, rfl, HY, BI⟩ := hrel
      have BWI := HBW.out.trans (BI.mono HBW.out.size)
      have A := HA8.out.of BI HA8.out.lt
      have hyl : y.size ≤ 690 := by
        rw [← toNat_dec, HY.out]
        have := HRL.out i
        simp only [List.length_append, List.length_cons, List.length_nil, toNat_dec]
        omega
      have c3 := A.cell 3 rfl
      have cr := (BWI.cell (World.block_lt_of_cell? w _ HRC.out)).trans HRC.out
      by_cases hil : i < rn
      case neg =>
        obtain rfl : rn = i := by omega
        have sy : ¬ (9223372036854775807 < y.size + 1) := by omega
        have hnew : (y ++ (⟨#[10]⟩ : ByteArray)).data.toList = hd ++ (r.out.take (k + 1)).flatMap olineL := by
          have e : (y ++ (⟨#[10]⟩ : ByteArray)).data.toList = y.data.toList ++ [10] := by simp
          rw [e, HST.out, HY.out, HX.out, HRN.out, List.take_length]
          unfold olineL
          simp only [List.append_assoc]
        have HNEW := Lib.hid hnew
        clear hnew
        go_wp2
        go_roundw
        case rel => exact ⟨k + 1, _, by omega, rfl, by go_num, HNEW, BI⟩
        case measure => simp [intOf]; omega
      obtain ⟨sb, so, rfl, -, hm0, -⟩ := M4.out i hil
      have hst2 : (row.take (i + 1)).flatMap outL = (row.take i).flatMap outL ++ outL (row[i]?.getD ByteArray.empty) := by
        have hi2 : i < row.length := by rw [← HRN.out]; exact hil
        rw [List.take_succ_eq_append_getElem hi2, List.flatMap_append, List.getElem?_eq_getElem hi2]
        simp
      have hmo := HMV.out i hil
      obtain ⟨mv, hmv⟩ : ∃ x, x = row[i]?.getD ByteArray.empty := ⟨_, rfl⟩
      rw [← hmv] at hm0 hst2 hmo
      have q0 := (BWI.cell (World.block_lt_of_cell? w _ hm0)).trans hm0
      have HST2 := Lib.hid hst2
      clear hst2 hmv hm0
      by_cases hx : mv = ⟨#[]⟩
      case pos =>
        subst hx
        have sy : ¬ (9223372036854775807 < y.size + 2) := by omega
        have hnew : (y ++ (⟨#[32, 45]⟩ : ByteArray)).data.toList = x.data.toList ++ [111, 117, 116] ++ (row.take (i + 1)).flatMap outL := by
          have e : (y ++ (⟨#[32, 45]⟩ : ByteArray)).data.toList = y.data.toList ++ [32, 45] := by simp
          rw [e, HST2.out, HY.out]
          simp only [List.append_assoc]
          rfl
        have HNEW := Lib.hid hnew
        clear hnew
        go_wp2
        go_roundw
        case rel => exact ⟨i + 1, _, by omega, rfl, by go_num, HNEW, BI⟩
        case measure => simp [intOf]; omega
      case neg =>
        have tx : (mv.toList == []) = false := by rw [empty_list, decide_eq_false hx]
        have tx2 : ¬ mv.toList = [] := by intro e; rw [e] at tx; cases tx
        have tx3 : mv.toList.isEmpty = false := by cases he : mv.toList with | nil => exact absurd he tx2 | cons a l => rfl
        have s3 : ¬ (9223372036854775807 < 1 + mv.size) := by omega
        have s4 : ¬ (9223372036854775807 < y.size + (1 + mv.size)) := by omega
        have hnew : (y ++ ((⟨#[32]⟩ : ByteArray) ++ mv)).data.toList = x.data.toList ++ [111, 117, 116] ++ (row.take (i + 1)).flatMap outL := by
          have e : (y ++ ((⟨#[32]⟩ : ByteArray) ++ mv)).data.toList = y.data.toList ++ outL mv := by
            unfold outL
            rw [if_neg hx]
            simp
          rw [e, HST2.out, HY.out]
          simp only [List.append_assoc]
        have HNEW := Lib.hid hnew
        clear hnew hx
        go_wp2
        go_roundw
        case rel => exact ⟨i + 1, _, by omega, rfl, by go_num, HNEW, BI⟩
        case measure => simp [intOf]; omega

end Go.Proofs.YtnkhgfdlehhjmaaDoor
