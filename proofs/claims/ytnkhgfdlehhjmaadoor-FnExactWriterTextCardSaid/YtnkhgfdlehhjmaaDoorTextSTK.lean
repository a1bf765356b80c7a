/-
  TurnerText of the reference (written by a program of this claim's own, gen_text.py).
-/
import Derived.Test.YtnkhgfdlehhjmaaDoorTextSMK
namespace Go.Proofs.YtnkhgfdlehhjmaaDoor
open Go.RowKit

theorem toNat_dec (x : ByteArray) : x.data.toList.length = x.size := Array.length_toList

theorem numsB3 (a b c : Nat) : (numsB [a, b, c]).data.toList = 32 :: ((decB a).data.toList ++ 32 :: ((decB b).data.toList ++ 32 :: (decB c).data.toList)) := by
  unfold numsB
  simp

set_option maxHeartbeats 8000000 in
set_option maxRecDepth 100000 in
theorem specTurnText_any (cs : List Value) (t : Turner) (B : Nat) (w : World) (hB0 : B ≤ w.heap.size) (h : turnE.rd w B cs t) : Calls Tryd.prog 17 #[.agg cs.toArray] w (Gives (.string (turnText t)) w) := by
  have RA := Lib.hid h
  obtain ⟨v2, rfl, d0, d1, h2⟩ := rd_Turner h
  have H2 := Lib.hid h2
  cases hv : validTurn t
  case false =>
    have hr : turnText t = ⟨#[]⟩ := by unfold turnText; rw [hv]; rfl
    have HR := Lib.hid hr; have HV := Lib.hid hv
    clear hr hv h h2
    go_enter Tryd.func17, Tryd.ntmps17
    go_wp2_with fail
    generalize hW : w.alloc _ = w0
    obtain ⟨A0, B0⟩ := blk1 hW
    clear hW
    refine (l02Ok_is false v2 t B w.heap.size w0 A0.hd (movessE.rd_of (B0.mono hB0) H2.out) HV.out).mono ?_
    rintro e w1 ⟨rfl, b1⟩
    have B1 := B0.trans (b1.mono B0.size)
    clear b1 B0 A0
    go_wp2
    go_ret
    exact ⟨by rw [HR.out]; rfl, B1⟩
  have K := turnOk_of hv
  have hr : turnText t = ⟨(turnL t).toArray⟩ := by unfold turnText; rw [hv, if_pos rfl]
  obtain ⟨pa, pc, rfl, p1, p2, -, p4⟩ := rd_slice1 rfl h2
  obtain ⟨n, hn⟩ : ∃ n, n = t.moves.length := ⟨_, rfl⟩
  have hn12 : n ≤ 12 := by rw [hn]; exact K.n12
  obtain ⟨Lt, hLt⟩ : ∃ k : Nat, t.letters = k := ⟨t.letters.toNat, by have := K.l1; omega⟩
  obtain ⟨St, hSt⟩ : ∃ k : Nat, t.start = k := ⟨t.start.toNat, by have := K.s0; omega⟩
  have hL3 : Lt ≤ 3 := by have := K.l3; omega
  have hS12 : St ≤ 12 := by have := K.s1; have := K.n12; omega
  have hhead : headL t = [116, 117, 114, 110, 101, 114] ++ (numsB [Lt, n, St]).data.toList ++ [10] := by
    unfold headL
    have e : numsB [t.letters.toNat, t.moves.length, t.start.toNat] = numsB [Lt, n, St] := by rw [hLt, hSt, hn]; rfl
    rw [e]
  rw [numsB3] at hhead
  have hhl := K.head_le
  obtain ⟨hd, hhd⟩ : ∃ x, x = headL t := ⟨_, rfl⟩
  rw [← hhd] at hhead hhl
  have hvt := fun w' g (A : Hd w' g [.int .i64 t.letters, .int .i64 t.start, .slice pa t.moves.length pc]) b => Lib.hid (l02Ok_is true (.slice pa t.moves.length pc) t B g w' A b hv)
  rw [hLt, hSt, ← hn] at RA hvt ⊢
  rw [← hn] at p1 p4 H2
  have zl : (decB Lt).size ≤ 2 := decB_len 1 Lt (by omega)
  have zn : (decB n).size ≤ 2 := decB_len 1 n (by omega)
  have zs : (decB St).size ≤ 2 := decB_len 1 St (by omega)
  have hd1 := fun x => Lib.hid (specDecimal_any Lt (by omega) x)
  have hd2 := fun x => Lib.hid (specDecimal_any n (by omega) x)
  have hd3 := fun x => Lib.hid (specDecimal_any St (by omega) x)
  obtain ⟨dl, hdl⟩ : ∃ x, x = decB Lt := ⟨_, rfl⟩
  obtain ⟨dn, hdn⟩ : ∃ x, x = decB n := ⟨_, rfl⟩
  obtain ⟨ds, hds⟩ : ∃ x, x = decB St := ⟨_, rfl⟩
  rw [← hdl] at zl hd1 hhead
  rw [← hdn] at zn hd2 hhead
  rw [← hds] at zs hd3 hhead
  have HK := Lib.hid K; have HN := Lib.hid hn; have HHD := Lib.hid hhd; have HHEAD := Lib.hid hhead; have HR := Lib.hid hr
  have P4 := Lib.hid p4
  clear K hn hhd hhead hr h h2 p4 hv hLt hSt hdl hdn hds
  go_enter Tryd.func17, Tryd.ntmps17
  go_wp2_with fail
  generalize hW : w.alloc _ = w0
  obtain ⟨A0, B0⟩ := blk1 hW
  clear hW
  refine (hvt w0 w.heap.size A0.hd (movessE.rd_of (B0.mono hB0) H2.out)).out.mono ?_
  rintro e w1 ⟨rfl, b1⟩
  have A1 := A0.of b1 A0.lt
  have B1 := B0.trans (b1.mono B0.size)
  clear b1 B0 A0 hvt
  have c0 := A1.cell 0 rfl
  have c1 := A1.cell 1 rfl
  have c2 := A1.cell 2 rfl
  have g0 := A1.lt
  have hov := cell_over w1
  have s1 : ¬ (9223372036854775807 < 7 + dl.size) := by omega
  have s2 : ¬ (9223372036854775807 < 7 + dl.size + 1) := by omega
  have s3 : ¬ (9223372036854775807 < 7 + dl.size + 1 + dn.size) := by omega
  have s4 : ¬ (9223372036854775807 < 7 + dl.size + 1 + dn.size + 1) := by omega
  have s5 : ¬ (9223372036854775807 < 7 + dl.size + 1 + dn.size + 1 + ds.size) := by omega
  have s6 : ¬ (9223372036854775807 < 7 + dl.size + 1 + dn.size + 1 + ds.size + 1) := by omega
  go_upto_region 3 with fail
  refine wp_region_over (by kernel_rfl) (by kernel_rfl) ?_
  repeat (go_big_quiet_step ((go_at_call 41; first | with_reducible exact calls_over (hd1 _).out | with_reducible exact calls_over (hd2 _).out | with_reducible exact calls_over (hd3 _).out)))
  refine wpQuiet_nil ?_
  intro w8 b8
  have HA8 := Lib.hid (A1.of b8 A1.lt)
  have HBW := Lib.hid (B1.trans (b8.mono B1.size))
  obtain ⟨o8, ho8⟩ : ∃ x : ByteArray, x = (⟨#[116, 117, 114, 110, 101, 114, 32]⟩ : ByteArray) ++ dl ++ (⟨#[32]⟩ : ByteArray) ++ dn ++ (⟨#[32]⟩ : ByteArray) ++ ds ++ (⟨#[10]⟩ : ByteArray) := ⟨_, rfl⟩
  have hob : o8.data.toList = hd := by
    rw [ho8, HHEAD.out]
    simp
  rw [← ho8]
  have HOB := Lib.hid hob
  clear hob ho8 s1 s2 s3 s4 s5 s6 c0 c1 c2 g0 hov A1 B1 b8 hd1 hd2 hd3
  go_wp2
  go_loopw [3, 4] (fun o i wr => ∃ (k : Nat) (x : ByteArray), k ≤ n ∧ o = .string x ∧ i = .int .i64 k ∧ Hid (x.data.toList = hd ++ (t.moves.take k).flatMap tlineL) ∧ Below w8.heap.size w8 wr) (fun _ i _ => n - (intOf i).toNat)
  case atStart => exact ⟨0, o8, by omega, rfl, rfl, Lib.hid (by rw [HOB.out]; simp), Below.refl _ _⟩
  case round =>
    obtain ⟨k, x, hk, rfl, rfl, HX, BR⟩ := hrel
    have BW := HBW.out.trans (BR.mono HBW.out.size)
    have A := HA8.out.of BR HA8.out.lt
    have hxl : x.size ≤ 379 := by
      rw [← toNat_dec, HX.out, List.length_append]
      have := HK.out.lines_le k
      omega
    have c2 := A.cell 2 rfl
    by_cases hlt : k < n
    case neg =>
      obtain rfl : n = k := by omega
      have hfull : x = ⟨(turnL t).toArray⟩ := arr_of (by rw [HX.out, HHD.out, HN.out, List.take_length]; rfl)
      have HFULL := Lib.hid hfull
      clear hfull
      go_wp2
      go_ret
      exact ⟨by rw [HR.out, ← HFULL.out]; rfl, BW⟩
    obtain ⟨rb, ro, vk, rfl, hrb, hrc, hrd⟩ := P4.out k hlt
    have hmem : t.moves[k]?.getD default ∈ t.moves := mem_getD (by rw [← HN.out]; exact hlt)
    have hst := flatMap_takeS tlineL t.moves k (by rw [← HN.out]; exact hlt)
    obtain ⟨row, hrow⟩ : ∃ x, x = t.moves[k]?.getD default := ⟨_, rfl⟩
    rw [← hrow] at hrd hmem hst
    obtain ⟨ma, mc, rfl, m1, m2, -, m4⟩ := rd_movesE hrd
    obtain ⟨rn, hrn⟩ : ∃ x, x = row.length := ⟨_, rfl⟩
    have hr5 : rn ≤ 5 := by rw [hrn]; exact HK.out.len hmem
    have hmv : ∀ j, j < row.length → mvOk (row[j]?.getD default) := fun j hj => HK.out.mv hmem hj
    have hrl : ∀ j, ((row.take j).flatMap mvW).length ≤ 20 := fun j => HK.out.mrow_le hmem j
    rw [← hrn] at m1 m4 hrc hmv
    have cr := (BW.cell (World.block_lt_of_cell? w _ hrc)).trans hrc
    have HST := Lib.hid hst; have HMV := Lib.hid hmv; have HRL := Lib.hid hrl; have M4 := Lib.hid m4; have HRN := Lib.hid hrn; have HRC := Lib.hid hrc
    clear hst hmem hrow hrd m4 hrn hrc hmv hrl
    have sx : ¬ (9223372036854775807 < x.size + 5) := by omega
    have HBR := Lib.hid BR
    go_wp2
    clear sx c2 cr A BW BR
    go_loopw [3, 5] (fun o j wr => ∃ (i : Nat) (y : ByteArray), i ≤ rn ∧ o = .string y ∧ j = .int .i64 i ∧ Hid (y.data.toList = x.data.toList ++ [115, 116, 97, 116, 101] ++ (row.take i).flatMap mvW) ∧ Below w8.heap.size w8 wr) (fun _ j _ => rn - (intOf j).toNat)
    case atStart => exact ⟨0, x ++ (⟨#[115, 116, 97, 116, 101]⟩ : ByteArray), by omega, rfl, rfl, Lib.hid (by simp), HBR.out⟩
    case round =>
      obtain ⟨i, y, hi, rfl, rfl, HY, BI⟩ := hrel
      have BWI := HBW.out.trans (BI.mono HBW.out.size)
      have A := HA8.out.of BI HA8.out.lt
      have hyl : y.size ≤ 404 := by
        rw [← toNat_dec, HY.out]
        have := HRL.out i
        simp only [List.length_append, List.length_cons, List.length_nil, toNat_dec]
        omega
      have c2 := A.cell 2 rfl
      have cr := (BWI.cell (World.block_lt_of_cell? w _ HRC.out)).trans HRC.out
      by_cases hil : i < rn
      case neg =>
        obtain rfl : rn = i := by omega
        have sy : ¬ (9223372036854775807 < y.size + 1) := by omega
        have hnew : (y ++ (⟨#[10]⟩ : ByteArray)).data.toList = hd ++ (t.moves.take (k + 1)).flatMap tlineL := by
          have e : (y ++ (⟨#[10]⟩ : ByteArray)).data.toList = y.data.toList ++ [10] := by simp
          rw [e, HST.out, HY.out, HX.out, HRN.out, List.take_length]
          unfold tlineL
          simp only [List.append_assoc]
        have HNEW := Lib.hid hnew
        clear hnew
        go_wp2
        go_roundw
        case rel => exact ⟨k + 1, _, by omega, rfl, by go_num, HNEW, BI⟩
        case measure => simp [intOf]; omega
      obtain ⟨sb, so, rfl, -, ⟨hm0, hm1⟩, -⟩ := M4.out i hil
      have hst2 := flatMap_takeS mvW row i (by rw [← HRN.out]; exact hil)
      have hmo := HMV.out i hil
      obtain ⟨mv, hmv⟩ : ∃ x, x = row[i]?.getD default := ⟨_, rfl⟩
      rw [← hmv] at hm0 hm1 hst2 hmo
      have q0 := (BWI.cell (World.block_lt_of_cell? w _ hm0)).trans hm0
      have q1 := (BWI.cell (World.block_lt_of_cell? w _ hm1)).trans hm1
      have hmt := fun x => Lib.hid (l02Word_any mv x hmo)
      have hml := moveL_le hmo
      obtain ⟨tm, htm⟩ : ∃ x : ByteArray, x = ⟨(moveL mv).toArray⟩ := ⟨_, rfl⟩
      rw [← htm] at hmt
      have hts : tm.size ≤ 3 := by rw [htm, arr_size]; exact hml
      have HTL : Hid (tm.data.toList = moveL mv) := Lib.hid (by rw [htm])
      have HST2 := Lib.hid hst2
      have s3 : ¬ (9223372036854775807 < 1 + tm.size) := by omega
      have s4 : ¬ (9223372036854775807 < y.size + (1 + tm.size)) := by omega
      clear hst2 hmv hm0 hm1 htm hmo hml
      go_wp2_with fail
      refine (hmt wr).out.mono ?_
      rintro e wl ⟨rfl, bl⟩
      have BL := Lib.hid (BI.trans (bl.mono BI.size))
      have hnew : (y ++ ((⟨#[32]⟩ : ByteArray) ++ tm)).data.toList = x.data.toList ++ [115, 116, 97, 116, 101] ++ (row.take (i + 1)).flatMap mvW := by
        have e : (y ++ ((⟨#[32]⟩ : ByteArray) ++ tm)).data.toList = y.data.toList ++ mvW mv := by
          unfold mvW
          rw [← HTL.out]
          simp
        rw [e, HST2.out, HY.out]
        simp only [List.append_assoc]
      have HNEW := Lib.hid hnew
      clear hnew hmt q0 q1 bl BI BWI A c2 cr
      go_wp2
      go_roundw
      case rel => exact ⟨i + 1, _, by omega, rfl, by go_num, HNEW, BL.out⟩
      case measure => simp [intOf]; omega

end Go.Proofs.YtnkhgfdlehhjmaaDoor
