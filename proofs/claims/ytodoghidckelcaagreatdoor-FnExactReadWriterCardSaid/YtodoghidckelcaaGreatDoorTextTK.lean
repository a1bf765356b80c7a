/-
  TurnerText of the program (written by a program of this claim's own, gen_text.py).
-/
import Derived.Test.YtodoghidckelcaaGreatDoorTextMK
namespace Go.Proofs.YtodoghidckelcaaGreatDoor
open Go.RowKit

set_option maxHeartbeats 8000000 in
set_option maxRecDepth 100000 in
theorem turnText_any (cs : List Value) (t : Turner) (B : Nat) (w : World) (hB0 : B ≤ w.heap.size) (h : turnE.rd w B cs t) (hT : Pow10 w.heap.size w) : Calls Tryz.prog 33 #[.agg cs.toArray] w (Gives (.string (turnText t)) w) := by
  have RA := Lib.hid h
  have HT := Lib.hid hT
  obtain ⟨v2, rfl, d0, d1, h2⟩ := rd_Turner h
  cases hv : validTurn t
  case false =>
    have hr : turnText t = ⟨#[]⟩ := by unfold turnText; rw [hv]; rfl
    have HR := Lib.hid hr; have HV := Lib.hid hv
    clear hr hv h h2 hT
    go_enter Tryz.func33, Tryz.ntmps33
    go_wp2_with fail
    generalize hW : w.alloc _ = w0
    obtain ⟨A0, B0⟩ := blk1 hW
    clear hW
    refine (validTurn_is false _ t B w0 (Nat.le_trans hB0 B0.size) (turnE.rd_of (B0.mono hB0) RA.out) HV.out).mono ?_
    rintro e w1 ⟨rfl, b1⟩
    have B1 := B0.trans (b1.mono B0.size)
    clear b1 B0 A0
    go_wp2
    go_ret
    exact ⟨by rw [HR.out]; rfl, B1⟩
  have K := turnOk_of hv
  have hr : turnText t = ⟨(turnL t).toArray⟩ := by unfold turnText; rw [hv, if_pos rfl]
  obtain ⟨pa, pc, rfl, p1, p2, -, p4⟩ := rd_slice1 rfl h2
  obtain ⟨n, hn⟩ : ∃ n, n = t.moves.length := ⟨_, rfl⟩
  have hn12 : n ≤ 12 := by rw [hn]; exact K.n12
  obtain ⟨Lt, hLt⟩ : ∃ k : Nat, t.letters = k := ⟨t.letters.toNat, by have := K.l1; omega⟩
  obtain ⟨St, hSt⟩ : ∃ k : Nat, t.start = k := ⟨t.start.toNat, by have := K.s0; omega⟩
  have hL3 : Lt ≤ 3 := by have := K.l3; omega
  have hS12 : St ≤ 12 := by have := K.s1; have := K.n12; omega
  have hnums : numsB [t.letters.toNat, t.moves.length, t.start.toNat] = numsB [Lt, n, St] := by rw [hLt, hSt, hn]; rfl
  have hz := K.nums_le
  rw [hnums] at hz
  have hhead : headL t = [116, 117, 114, 110, 101, 114] ++ (numsB [Lt, n, St]).data.toList ++ [10] := by unfold headL; rw [hnums]
  have hhl := K.head_le
  obtain ⟨hd, hhd⟩ : ∃ x, x = headL t := ⟨_, rfl⟩
  rw [← hhd] at hhead hhl
  have hvt := fun w' a (b : turnE.rd w' B [.int .i64 t.letters, .int .i64 t.start, .slice pa t.moves.length pc] t) => Lib.hid (validTurn_is true _ t B w' a b hv)
  rw [hLt, hSt, ← hn] at RA hvt ⊢
  rw [← hn] at p1 p4 h2
  have hbn : ∀ k, k ∈ [Lt, n, St] → k ≤ 9223372036854775807 := by
    intro k hk
    simp only [List.mem_cons, List.not_mem_nil, or_false] at hk
    rcases hk with h | h | h <;> omega
  have hnt := fun (q : Nat) (w' : World) (R : Blk w' q ([Lt, n, St].map fun n : Nat => Value.int .i64 (n : Int)) 2) (hT' : Pow10 w'.heap.size w') => Lib.hid (numbersText_any [Lt, n, St] 3 rfl (by decide) hbn q 3 w' R.lt (fun k n h => R.cell k (by rw [List.getElem?_map, h]; rfl)) hT')
  obtain ⟨nb, hnb⟩ : ∃ x, x = numsB [Lt, n, St] := ⟨_, rfl⟩
  rw [← hnb] at hnt hz hhead
  have HK := Lib.hid K; have HN := Lib.hid hn; have HHD := Lib.hid hhd; have HHEAD := Lib.hid hhead; have HR := Lib.hid hr
  have H2 := Lib.hid h2; have P4 := Lib.hid p4
  have hszm := fun w' (b : Below B w w') => Lib.hid (size_movess _ t.moves B w' (movessE.rd_of b H2.out))
  rw [← hn] at hszm
  clear K hn hhd hhead hr h h2 p4 hv hT hnums hnb hbn hLt hSt
  go_enter Tryz.func33, Tryz.ntmps33
  go_wp2_with fail
  generalize hW : w.alloc _ = w0
  obtain ⟨A0, B0⟩ := blk1 hW
  clear hW
  refine (hvt w0 (Nat.le_trans hB0 B0.size) (turnE.rd_of (B0.mono hB0) RA.out)).out.mono ?_
  rintro e w1 ⟨rfl, b1⟩
  have A1 := A0.of b1 A0.lt
  have B1 := B0.trans (b1.mono B0.size)
  clear b1 B0 A0 hvt
  go_upto_region 4 with fail
  have HB := Bld.new w1
  have A2 := A1.alloc (.cells #[.pointer none, .slice none 0 0] 70)
  have B2 := B1.alloc B1.size (.cells #[.pointer none, .slice none 0 0] 70)
  have hbb : w1.heap.size ≤ (w1.alloc (.cells #[.pointer none, .slice none 0 0] 70)).heap.size := by simp
  have hal := A1.lt
  have hwb : w.heap.size ≤ w1.heap.size := B1.size
  obtain ⟨bb, hbb2⟩ : ∃ x, x = w1.heap.size := ⟨_, rfl⟩
  rw [← hbb2] at HB hbb hal hwb ⊢
  generalize hW : w1.alloc _ = w2 at HB A2 B2 hbb ⊢
  clear hW A1 B1 hbb2
  refine wp_region_m 12 (by kernel_rfl) rfl ?_
  intro w3 b3
  have HB3 := Lib.hid (HB.step b3)
  have A3 := A2.of b3 A2.lt
  have B3 := B2.trans (b3.mono B2.size)
  have hb3 : bb ≤ w3.heap.size := Nat.le_trans hbb b3.size
  have HA3 := Lib.hid A3
  have c0 := A3.cell 0 rfl
  have c1 := A3.cell 1 rfl
  have c2 := A3.cell 2 rfl
  have g0 := A3.lt
  have hov := cell_over w3
  clear HB A2 B2 hbb b3 A3
  refine wpM_read 0 rfl rfl (by kernel_rfl) (fun _ d _ _ _ h => by cases d <;> exact h) ?_
  go_big_quiet_step (fail)
  refine wpQuiet_nil ?_
  refine wpM_read 1 rfl rfl (by kernel_rfl) (fun _ d _ _ _ h => by cases d <;> exact h) ?_
  go_big_quiet_step (fail)
  refine wpQuiet_nil ?_
  refine wpM_read 2 rfl rfl (by kernel_rfl) (fun _ d _ _ _ h => by cases d <;> exact h) ?_
  go_big_quiet_step (fail)
  refine wpQuiet_nil ?_
  refine wpM_read 3 rfl rfl (by kernel_rfl) (fun _ d _ _ _ h => by cases d <;> exact h) ?_
  go_big_quiet_step (fail)
  refine wpQuiet_nil ?_
  refine wpM_read 5 rfl rfl (by kernel_rfl) (fun _ d _ _ _ h => by cases d <;> exact h) ?_
  go_big_quiet_step (fail)
  refine wpQuiet_nil ?_
  refine wpM_read 6 rfl rfl (by kernel_rfl) (fun _ d _ _ _ h => by cases d <;> exact h) ?_
  go_big_quiet_step (fail)
  refine wpQuiet_nil ?_
  clear c0 c1 c2 hov
  refine wpM_call 4 54 #[.slice pa n pc] (.int .i64 n) rfl (by kernel_rfl) (fun _ d _ _ _ h => by cases d <;> exact h) rfl (fun x => by go_simp) (fun x bx => (hszm x ((B3.mono hB0).trans (bx.mono (Nat.le_trans hB0 B3.size)))).out) (fun K hK => ?_)
  go_simp
  refine hK _ ?_
  clear hK K
  refine wpM_ready [7] (by kernel_rfl) (by decide) (AllM.cons rfl (fun w4 b4 K hK => ?_) AllM.nil)
  go_simp
  have b45 : le w4 (w4.alloc (.cells #[.int .i64 Lt, .int .i64 n, .int .i64 St] 2)) := (Below.refl _ _).alloc (Nat.le_refl _) _
  refine hK _ _ (.inr b45) ?_
  clear hK K
  have b35 := le.trans b4 b45
  have HR5 : Hid (Blk (w4.alloc (.cells #[.int .i64 Lt, .int .i64 n, .int .i64 St] 2)) w4.heap.size ([Lt, n, St].map fun n : Nat => Value.int .i64 (n : Int)) 2) := Lib.hid (Blk.new w4 #[.int .i64 Lt, .int .i64 n, .int .i64 St] 2)
  obtain ⟨q, hq⟩ : ∃ x, x = w4.heap.size := ⟨_, rfl⟩
  rw [← hq] at HR5 ⊢
  generalize hW : w4.alloc _ = w5 at HR5 b45 b35 ⊢
  clear hW hq b45 b4
  have B5 := B3.trans (b35.mono B3.size)
  have HB5 := Lib.hid (HB3.out.step b35)
  have HA5 := Lib.hid (HA3.out.of b35 HA3.out.lt)
  have hb5 : bb ≤ w5.heap.size := Nat.le_trans hb3 b35.size
  clear HB3 HA3 b35 hb3 B3
  refine wpM_call 8 59 #[.slice (some ⟨q, 0, none⟩) 3 3] (.string nb) rfl (by kernel_rfl) (fun _ d _ _ _ h => by cases d <;> exact h) rfl (fun x => by go_simp) (fun x bx => (hnt q x (HR5.out.of bx HR5.out.lt) ((HT.out.step (B5.trans (bx.mono B5.size))).up (Nat.le_trans B5.size bx.size))).out) (fun K hK => ?_)
  go_simp
  refine hK _ ?_
  clear hK K
  have s1 : ¬ (9223372036854775807 < 6 + nb.size) := by omega
  have s2 : ¬ (9223372036854775807 < 6 + nb.size + 1) := by omega
  refine wpM_read 9 rfl rfl (by kernel_rfl) (fun _ d _ _ _ h => by cases d <;> exact h) ?_
  go_big_quiet_step (fail)
  refine wpQuiet_nil ?_
  refine wpM_read 10 rfl rfl (by kernel_rfl) (fun _ d _ _ _ h => by cases d <;> exact h) ?_
  go_big_quiet_step (fail)
  refine wpQuiet_nil ?_
  refine wpM_ready [11] (by kernel_rfl) (by decide) (AllM.cons rfl (fun w6 b6 K hK => ?_) AllM.nil)
  go_simp
  go_at_call 39
  have B6 := B5.trans (b6.mono B5.size)
  refine (writeStr_any bb bb [] _ w6 (HB5.out.step b6) (by simp only [List.length_nil, ByteArray.size_append]; first | (have e6 : (ByteArray.mk #[116, 117, 114, 110, 101, 114]).size = 6 := rfl; have e1 : (ByteArray.mk #[10]).size = 1 := rfl; omega) | omega) (Nat.le_trans hb5 b6.size)).mono ?_
  rintro e w7 ⟨rfl, hb7, B7⟩
  try go_simp
  refine hK _ _ (.inl (closes_of (by kernel_rfl))) ?_
  clear hK K
  refine wpM_done (by kernel_rfl) (fun w8 b8 => ?_)
  have hb8 : Bld bb bb hd w8 := by
    rw [HHEAD.out]
    have := hb7.step b8
    simpa using this
  have HA8 := Lib.hid (((HA5.out.of b6 HA5.out.lt).of B7 hal).of b8 (Nat.lt_of_lt_of_le (HA5.out.of b6 HA5.out.lt).lt B7.size))
  have hbz : bb ≤ w8.heap.size := Nat.le_trans (Nat.le_trans hb5 b6.size) (Nat.le_trans B7.size b8.size)
  have BW : Below w.heap.size w w8 := (B6.trans (B7.mono hwb)).trans (b8.mono (Nat.le_trans B6.size B7.size))
  have HBW := Lib.hid BW
  clear hb7 B7 b8 B6 b6 HB5 HA5 hb5 B5 BW HR5 hnt hszm
  have e0 := HA8.out.cell 2 rfl
  go_wp2
  clear e0 HA8
  go_loopw [26] (fun i wr => ∃ k : Nat, k ≤ n ∧ i = .int .i64 k ∧ Bld bb bb (hd ++ (t.moves.take k).flatMap tlineL) wr ∧ Below bb w8 wr) (fun i _ => n - (intOf i).toNat)
  case atStart => exact ⟨0, by omega, rfl, by simpa using hb8, Below.refl _ _⟩
  case round =>
    clear hb8
    obtain ⟨k, hk, rfl, hb, BR⟩ := hrel
    have BW := HBW.out.trans (BR.mono hwb)
    have hbr : bb ≤ wr.heap.size := Nat.le_trans hbz BR.size
    have HB := Lib.hid hb
    clear hb
    obtain ⟨pre, hpre⟩ : ∃ x, x = hd ++ (t.moves.take k).flatMap tlineL := ⟨_, rfl⟩
    have hpl : pre.length ≤ 379 := by rw [hpre, List.length_append]; have := HK.out.lines_le k; omega
    rw [← hpre] at HB
    have HPRE := Lib.hid hpre
    clear hpre
    by_cases hlt : k < n
    case neg =>
      obtain rfl : n = k := by omega
      have hfull : pre = turnL t := by rw [HPRE.out, HHD.out, HN.out, List.take_length]; rfl
      have HFULL := Lib.hid hfull
      clear hfull
      go_wp2_with fail
      refine (bldString_any bb bb pre wr HB.out hbr).mono ?_
      rintro e wz ⟨rfl, bz⟩
      go_wp2
      go_ret
      exact ⟨by rw [HR.out, HFULL.out]; rfl, BW.trans (bz.mono hwb)⟩
    obtain ⟨rb, ro, vk, rfl, hrb, hrc, hrd⟩ := P4.out k hlt
    have hmem : t.moves[k]?.getD default ∈ t.moves := mem_getD (by rw [← HN.out]; exact hlt)
    have hst := flatMap_takeS tlineL t.moves k (by rw [← HN.out]; exact hlt)
    obtain ⟨row, hrow⟩ : ∃ x, x = t.moves[k]?.getD default := ⟨_, rfl⟩
    rw [← hrow] at hrd hmem hst
    obtain ⟨ma, mc, rfl, m1, m2, -, m4⟩ := rd_movesE hrd
    obtain ⟨rn, hrn⟩ : ∃ x, x = row.length := ⟨_, rfl⟩
    have hr5 : rn ≤ 5 := by rw [hrn]; exact HK.out.len hmem
    have hmv : ∀ j, j < row.length → mvOk (row[j]?.getD default) := fun j hj => HK.out.mv hmem hj
    have hrl : ∀ j, ((row.take j).flatMap mvW).length ≤ 20 := fun j => HK.out.mrow_le hmem j
    rw [← hrn] at m1 m4 hrc hmv
    have cr := (BW.cell (World.block_lt_of_cell? w _ hrc)).trans hrc
    have HST := Lib.hid hst; have HMV := Lib.hid hmv; have HRL := Lib.hid hrl; have M4 := Lib.hid m4; have HRN := Lib.hid hrn
    have HBW0 := Lib.hid BW
    clear hst hmem hrow hrd m4 hrn hrc hmv hrl
    go_wp2_with fail
    refine (writeStr_any bb bb pre ⟨#[115, 116, 97, 116, 101]⟩ wr HB.out (by show pre.length + 5 ≤ 1000000; omega) hbr).mono ?_
    rintro e w9 ⟨rfl, hb9, B9⟩
    replace hb9 : Bld bb bb (pre ++ [115, 116, 97, 116, 101]) w9 := hb9
    have HBW9 := Lib.hid (BW.trans (B9.mono hwb))
    have hb9z : bb ≤ w9.heap.size := Nat.le_trans hbr B9.size
    have BR9 := BR.trans B9
    clear cr BW B9 HB BR
    go_wp2
    go_loopw [33] (fun j wr => ∃ i : Nat, i ≤ rn ∧ j = .int .i64 i ∧ Bld bb bb (pre ++ [115, 116, 97, 116, 101] ++ (row.take i).flatMap mvW) wr ∧ Below bb w9 wr) (fun j _ => rn - (intOf j).toNat)
    case atStart => exact ⟨0, by omega, rfl, by simpa using hb9, Below.refl _ _⟩
    case round =>
      clear hb9
      obtain ⟨i, hi, rfl, hb, BI⟩ := hrel
      have BWI := HBW9.out.trans (BI.mono hwb)
      have hbi : bb ≤ wr.heap.size := Nat.le_trans hb9z BI.size
      have HB := Lib.hid hb
      clear hb
      obtain ⟨pr2, hpr2⟩ : ∃ x, x = pre ++ [115, 116, 97, 116, 101] ++ (row.take i).flatMap mvW := ⟨_, rfl⟩
      have hpl2 : pr2.length ≤ 404 := by
        rw [hpr2]
        have := HRL.out i
        simp only [List.length_append, List.length_cons, List.length_nil]
        omega
      rw [← hpr2] at HB
      have HPR2 := Lib.hid hpr2
      clear hpr2
      by_cases hil : i < rn
      case neg =>
        obtain rfl : rn = i := by omega
        go_wp2_with fail
        refine (writeStr_any bb bb pr2 ⟨#[10]⟩ wr HB.out (by show pr2.length + 1 ≤ 1000000; omega) hbi).mono ?_
        rintro e wj ⟨rfl, hbj, Bj⟩
        replace hbj : Bld bb bb (pr2 ++ [10]) wj := hbj
        have hnew : pr2 ++ [10] = hd ++ (t.moves.take (k + 1)).flatMap tlineL := by
          rw [HST.out, HPR2.out, HPRE.out, HRN.out, List.take_length]
          unfold tlineL
          simp only [List.append_assoc]
        rw [hnew] at hbj
        have HBJ := Lib.hid hbj
        clear hbj hnew
        go_wp2
        go_roundw
        case rel => exact ⟨k + 1, by omega, by go_num, HBJ.out, (BR9.trans BI).trans Bj⟩
        case measure => simp [intOf]; omega
      obtain ⟨sb, so, rfl, -, ⟨hm0, hm1⟩, -⟩ := M4.out i hil
      have hst2 := flatMap_takeS mvW row i (by rw [← HRN.out]; exact hil)
      have hmo := HMV.out i hil
      obtain ⟨mv, hmv⟩ : ∃ x, x = row[i]?.getD default := ⟨_, rfl⟩
      rw [← hmv] at hm0 hm1 hst2 hmo
      have q0 := (BWI.cell (World.block_lt_of_cell? w _ hm0)).trans hm0
      have q1 := (BWI.cell (World.block_lt_of_cell? w _ hm1)).trans hm1
      have hmt := fun x a => Lib.hid (moveText_any mv x hmo a)
      have hml := moveL_le hmo
      obtain ⟨tm, htm⟩ : ∃ x : ByteArray, x = ⟨(moveL mv).toArray⟩ := ⟨_, rfl⟩
      rw [← htm] at hmt
      have hts : tm.size ≤ 3 := by rw [htm, arr_size]; exact hml
      have HTL : Hid (tm.data.toList = moveL mv) := Lib.hid (by rw [htm])
      have HST2 := Lib.hid hst2
      have s3 : ¬ (9223372036854775807 < 1 + tm.size) := by omega
      have s4 : ((⟨#[32]⟩ : ByteArray) ++ tm).size ≤ 4 := by
        rw [ByteArray.size_append]
        have e1 : (⟨#[32]⟩ : ByteArray).size = 1 := rfl
        omega
      have H4 := Lib.hid s4
      clear s4
      clear hst2 hmv hm0 hm1 htm hmo hml
      go_wp2_with fail
      generalize hW : wr.alloc _ = wk
      obtain ⟨-, bk⟩ := blk1 hW
      clear hW
      refine (hmt wk ((HT.out.step (BWI.trans (bk.mono BWI.size))).up (Nat.le_trans BWI.size bk.size))).out.mono ?_
      rintro e wl ⟨rfl, bl⟩
      have bkl := le.trans bk bl
      have HBL := Lib.hid (HB.out.step bkl)
      have BL := BI.trans (Below.mono bkl hbi)
      have hbl : bb ≤ wl.heap.size := Nat.le_trans hbi bkl.size
      clear bk bl bkl hmt q0 q1 HB BWI
      go_wp2_with fail
      refine (writeStr_any bb bb pr2 ((⟨#[32]⟩ : ByteArray) ++ tm) wl HBL.out (by have := H4.out; omega) hbl).mono ?_
      rintro e wm ⟨rfl, hbm, Bm⟩
      have hnew : pr2 ++ ((⟨#[32]⟩ : ByteArray) ++ tm).data.toList = pre ++ [115, 116, 97, 116, 101] ++ (row.take (i + 1)).flatMap mvW := by
        rw [HST2.out, HPR2.out]
        have : ((⟨#[32]⟩ : ByteArray) ++ tm).data.toList = mvW mv := by
          unfold mvW
          rw [← HTL.out]
          simp
        rw [this]
        simp only [List.append_assoc]
      rw [hnew] at hbm
      have HBM := Lib.hid hbm
      clear hbm hnew
      go_wp2
      go_roundw
      case rel => exact ⟨i + 1, by omega, by go_num, HBM.out, BL.trans Bm⟩
      case measure => simp [intOf]; omega

end Go.Proofs.YtodoghidckelcaaGreatDoor
