/-
  ThenTurner of the reference (written by a program of this claim's own, gen_join.py).
-/
import Derived.Test.YtnkhgfdlehhjmaaDoorL02RaisedK
import Derived.Test.YtnkhgfdlehhjmaaDoorL02CopyK
import Derived.Test.YtnkhgfdlehhjmaaDoorTurnOrK
import Derived.Test.YtnkhgfdlehhjmaaDoorNthTurnK
import Derived.Test.YtnkhgfdlehhjmaaDoorSpecWritOkK
import Derived.Test.YtnkhgfdlehhjmaaDoorThenLK
namespace Go.Proofs.YtnkhgfdlehhjmaaDoor
open Go.RowKit

set_option maxHeartbeats 8000000 in
set_option maxRecDepth 100000 in
theorem specThenTurner_is (x : Turner × Int) (cs : List Value) (t : Turner) (ds : List Value) (u : Turner) (B : Nat) (w : World) (hB0 : B ≤ w.heap.size) (h : turnE.rd w B cs t) (h' : turnE.rd w B ds u) (hx : thenTurner t u = x) :
    Calls Tryd.prog 26 #[.agg cs.toArray, .agg ds.toArray] w (MakesC turnE x w) := by
  have HX := Lib.hid hx
  have RA := Lib.hid h
  have RB := Lib.hid h'
  obtain ⟨v2, rfl, k0, k1, k2⟩ := rd_Turner h
  obtain ⟨u2, rfl, j0, j1, j2⟩ := rd_Turner h'
  have K2 := Lib.hid k2; have J2 := Lib.hid j2
  obtain ⟨ta, tn, tc, rfl⟩ := rd_slice k2
  obtain ⟨ba, bn, bc, rfl⟩ := rd_slice j2
  clear hx h h' k2 j2
  have S := (((Star.nil w).alloc (cs := #[.int .i64 t.letters, .int .i64 t.start, .slice ta tn tc]) (ty := 32)).alloc (cs := #[.int .i64 u.letters, .int .i64 u.start, .slice ba bn bc]) (ty := 32)).alloc (cs := #[.int .i64 0, .int .i64 0, .slice none 0 0]) (ty := 32)
  rw [World.size_alloc, World.size_alloc] at S
  go_enter Tryd.func26, Tryd.ntmps26
  go_wp2_with fail
  generalize hW : ((w.alloc _).alloc _).alloc _ = w0 at S ⊢
  clear hW
  replace S : Star w w0 [oB (w.heap.size + 1 + 1) [.int .i64 0, .int .i64 0, .slice none 0 0] 32, oB (w.heap.size + 1) [.int .i64 u.letters, .int .i64 u.start, .slice ba bn bc] 32, oB w.heap.size [.int .i64 t.letters, .int .i64 t.start, .slice ta tn tc] 32] := S
  refine (l02Ok_any _ t B _ w0 (S.blk 2 rfl).hd (movessE.rd_of (S.below.mono hB0) K2.out)).mono ?_
  rintro e w1 ⟨rfl, b⟩
  replace S := S.step b
  clear b
  cases h1 : validTurn t
  case false =>
    clear K2 J2
    have R0 := S.blk 0 rfl
    have c0 := R0.cell 0 rfl
    have c1 := R0.cell 1 rfl
    have c2 := R0.cell 2 rfl
    have f0 := R0.free
    go_wp2
    generalize hW : ((w1.setCell _ _).setCell _ _).setCell _ _ = w9
    replace S := S.set3 rfl hW
    have A3 := S.blk 0 rfl
    have q0 := A3.cell 0 rfl
    have q1 := A3.cell 1 rfl
    have q2 := A3.cell 2 rfl
    obtain rfl : x = (default, 1) := by rw [← HX.out]; unfold thenTurner; rw [h1]; rfl
    exact bodyPost_ret (v := .tuple #[.agg #[.int .i64 0, .int .i64 0, .slice none 0 0], .int .i64 1]) (by simp [results, Tryd.results26, go_sem, q0, q1, q2]) rfl (S.flat (ow_Turner_zero _)).done
  go_wp2_with fail
  refine (l02Ok_any _ u B _ w1 (S.blk 1 rfl).hd (movessE.rd_of (S.below.mono hB0) J2.out)).mono ?_
  rintro e w2 ⟨rfl, b⟩
  replace S := S.step b
  clear b
  cases h2 : validTurn u
  case false =>
    clear K2 J2
    have R0 := S.blk 0 rfl
    have c0 := R0.cell 0 rfl
    have c1 := R0.cell 1 rfl
    have c2 := R0.cell 2 rfl
    have f0 := R0.free
    go_wp2
    generalize hW : ((w2.setCell _ _).setCell _ _).setCell _ _ = w9
    replace S := S.set3 rfl hW
    have A3 := S.blk 0 rfl
    have q0 := A3.cell 0 rfl
    have q1 := A3.cell 1 rfl
    have q2 := A3.cell 2 rfl
    obtain rfl : x = (default, 1) := by rw [← HX.out]; unfold thenTurner; rw [h1, h2]; rfl
    exact bodyPost_ret (v := .tuple #[.agg #[.int .i64 0, .int .i64 0, .slice none 0 0], .int .i64 1]) (by simp [results, Tryd.results26, go_sem, q0, q1, q2]) rfl (S.flat (ow_Turner_zero _)).done
  have e0 := (S.blk 1 rfl).cell 0 rfl
  have d0 := (S.blk 2 rfl).cell 0 rfl
  by_cases h3 : t.letters = u.letters
  case neg =>
    have t3 : (t.letters != u.letters) = true := by simpa using h3
    clear K2 J2
    have R0 := S.blk 0 rfl
    have c0 := R0.cell 0 rfl
    have c1 := R0.cell 1 rfl
    have c2 := R0.cell 2 rfl
    have f0 := R0.free
    go_wp2
    generalize hW : ((w2.setCell _ _).setCell _ _).setCell _ _ = w9
    replace S := S.set3 rfl hW
    have A3 := S.blk 0 rfl
    have q0 := A3.cell 0 rfl
    have q1 := A3.cell 1 rfl
    have q2 := A3.cell 2 rfl
    obtain rfl : x = (default, 2) := by rw [← HX.out]; unfold thenTurner; rw [h1, h2]; show (if t.letters = u.letters then _ else _) = _; rw [if_neg h3]
    exact bodyPost_ret (v := .tuple #[.agg #[.int .i64 0, .int .i64 0, .slice none 0 0], .int .i64 2]) (by simp [results, Tryd.results26, go_sem, q0, q1, q2]) rfl (S.flat (ow_Turner_zero _)).done
  have t3 : (t.letters != u.letters) = false := by simpa using h3
  have KT := turnOk_of h1
  have KU := turnOk_of h2
  obtain ⟨n, hn⟩ : ∃ n, n = t.moves.length := ⟨_, rfl⟩
  obtain ⟨m, hm⟩ : ∃ m, m = u.moves.length := ⟨_, rfl⟩
  have hn12 : n ≤ 12 := by rw [hn]; exact KT.n12
  have hm12 : m ≤ 12 := by rw [hm]; exact KU.n12
  have hn1 : 1 ≤ n := by rw [hn]; exact KT.n1
  have hm1 : 1 ≤ m := by rw [hm]; exact KU.n1
  have hX : x = (if validTurn (thenT t u) then (thenT t u, 0) else (default, 3)) := by rw [← HX.out]; unfold thenTurner; rw [h1, h2]; show (if t.letters = u.letters then _ else _) = _; rw [if_pos h3]
  obtain ⟨c, hc⟩ : ∃ c : Nat, t.letters = c := ⟨t.letters.toNat, by have := KT.l1; omega⟩
  have hc1 : 1 ≤ c := by have := KT.l1; omega
  have hc3 : c ≤ 3 := by have := KT.l3; omega
  obtain ⟨St, hSt⟩ : ∃ k : Nat, u.start = k := ⟨u.start.toNat, by have := KU.s0; omega⟩
  have hStm : St < m := by have := KU.s1; omega
  have hcu : u.letters = c := by rw [← h3, hc]
  have hpre : beginM t u = raisedM n ((u.moves[St]?.getD default)[c]?.getD default) := by unfold beginM; rw [hSt, hcu, ← hn]; rfl
  have hTM : thenMs t u = t.moves.map (thenRow c ((n : Int) + m) (beginM t u)) ++ u.moves.map (List.map (raisedM n)) ++ [(List.replicate (c + 2) (⟨(n : Int) + m, -1⟩ : Move)).set c (beginM t u)] := by
    unfold thenMs homeOf; rw [hc, ← hn, ← hm]; rfl
  have hstb : -1 ≤ t.start ∧ t.start ≤ 100 := by have := KT.s0; have := KT.s1; omega
  have HKT := Lib.hid KT; have HKU := Lib.hid KU; have HN := Lib.hid hn; have HM := Lib.hid hm; have HX2 := Lib.hid hX; have HTM := Lib.hid hTM; have HPRE := Lib.hid hpre
  have HV1 := Lib.hid h1; have HV2 := Lib.hid h2; have HC := Lib.hid hc; have HCU := Lib.hid hcu
  obtain ⟨ha, hp, tc', ht, q1, q2, q4⟩ := rd_s1p rfl K2.out (by rw [← hn]; exact hn1)
  simp only [Value.slice.injEq] at ht
  obtain ⟨rfl, rfl, rfl⟩ := ht
  obtain ⟨ua, up, uc, hu, o1, o2, o4⟩ := rd_s1p rfl J2.out (by rw [← hm]; exact hm1)
  simp only [Value.slice.injEq] at hu
  obtain ⟨rfl, rfl, rfl⟩ := hu
  rw [← hn] at q1 q4 S
  rw [← hm] at o1 o4 S
  rw [hc, hcu, hSt] at S
  rw [hcu] at e0
  rw [hc] at d0
  rw [hc, hcu] at t3
  have HK2 : Hid (movessE.rd w B [.slice (some ⟨ha, hp, none⟩) n tc] t.moves) := Lib.hid (by have := K2.out; rw [← hn] at this; exact this)
  have Q4 := Lib.hid q4; have O4 := Lib.hid o4
  obtain ⟨vk, hrc, hrd⟩ := o4 St hStm
  have hms := mem_getD (l := u.moves) (k := St) (by rw [← hm]; exact hStm)
  have hlen5 := (KU.row _ hms).1
  have hmo := (KU.row _ hms).2 c (by rw [hcu] at hlen5; omega)
  rw [hcu] at hlen5
  have hbd5 := moveOk_bdj hmo
  obtain ⟨row, hrow⟩ : ∃ y, y = u.moves[St]?.getD default := ⟨_, rfl⟩
  rw [← hrow] at hrd hlen5 hbd5 hpre
  have hl2 : row.length = c + 2 := by omega
  obtain ⟨ma, mc, rfl, m1, m2, -, m4⟩ := rd_movesE hrd
  rw [hl2] at m1 m4 hrc
  obtain ⟨sb, so, rfl, -, ⟨hm0, hm1'⟩, -⟩ := m4 c (by omega)
  obtain ⟨mv, hmv⟩ : ∃ y, y = row[c]?.getD default := ⟨_, rfl⟩
  rw [← hmv] at hm0 hm1' hbd5 hpre
  rw [← hm] at hbd5
  obtain ⟨⟨ht2, htm⟩, hd1, hd2⟩ := hbd5
  have HPR2 := Lib.hid hpre
  have HRC := Lib.hid hrc; have HM0 := Lib.hid hm0; have HM1 := Lib.hid hm1'
  clear KT KU hX hTM hpre HX RA RB K2 J2 h1 h2 hn hm q4 o4 h3 hcu j0 j1 hSt hc hrc hrd hms hlen5 hmo hrow hl2 m4 hm0 hm1' hmv
  have d2 := (S.blk 2 rfl).cell 2 rfl
  have f2 := (S.blk 1 rfl).cell 2 rfl
  have wh : IntKind.i64.wrap ((n : Int) + (m : Int)) = (n : Int) + (m : Int) := IntWalk.i64_in _ ⟨by omega, by omega⟩
  replace S := S.alloc (cs := #[.int .i64 ((n : Int) + (m : Int)), .int .i64 (-1)]) (ty := 65)
  go_upto_region 7 with fail
  generalize hW : w2.alloc _ = w3 at S ⊢
  clear hW wh d0 d2 e0 f2 t3
  obtain ⟨gh, hgh⟩ : ∃ g, g = w2.heap.size := ⟨_, rfl⟩
  rw [← hgh] at S ⊢
  clear hgh
  obtain ⟨H, hH⟩ : ∃ h, h = (n : Int) + (m : Int) := ⟨_, rfl⟩
  have hHb : 0 ≤ H ∧ H ≤ 24 := by omega
  rw [← hH] at S HTM ⊢
  clear hH
  have hb5 := raisedM_bd (n : Int) ⟨by omega, by omega⟩ mv ⟨ht2, by omega⟩ ⟨hd1, hd2⟩
  have hcl := fun w' => Lib.hid (l02Raised_any (n : Int) ⟨by omega, by omega⟩ mv ⟨ht2, by omega⟩ ⟨hd1, hd2⟩ w')
  rw [← HPR2.out] at hb5 hcl
  obtain ⟨bg, hbg⟩ : ∃ y, y = beginM t u := ⟨_, rfl⟩
  rw [← hbg] at hb5 hcl HTM
  clear hbg HPR2 HPRE
  have i1 : (0 : Int) ≤ (St : Int) := by omega
  have i2 : (St : Int) < (m : Int) := by omega
  have i3 : (0 : Int) ≤ (c : Int) := by omega
  have i4 : (c : Int) < ((c + 2 : Nat) : Int) := by omega
  refine wp_region_m 14 (by kernel_rfl) rfl ?_
  intro w4 b4
  replace S := S.step b4
  clear b4
  have BW := S.below
  have z0 := (BW.cell (World.block_lt_of_cell? w _ HRC.out)).trans HRC.out
  have z1 := (BW.cell (World.block_lt_of_cell? w _ HM0.out)).trans HM0.out
  have z2 := (BW.cell (World.block_lt_of_cell? w _ HM1.out)).trans HM1.out
  have gz1 : ua < w4.heap.size := World.block_lt_of_cell? w4 _ z0
  have gz2 : sb < w4.heap.size := World.block_lt_of_cell? w4 _ z1
  have f0 := (S.blk 2 rfl).cell 0 rfl
  have f1 := (S.blk 2 rfl).cell 1 rfl
  have f2 := (S.blk 2 rfl).cell 2 rfl
  have gz3 := (S.blk 2 rfl).lt
  have hov := cell_over w4
  refine wpM_read 0 rfl rfl (by kernel_rfl) (fun _ d _ _ _ h => by cases d <;> exact h) ?_
  go_big_quiet_step (fail)
  refine wpQuiet_nil ?_
  refine wpM_read 1 rfl rfl (by kernel_rfl) (fun _ d _ _ _ h => by cases d <;> exact h) ?_
  go_big_quiet_step (fail)
  refine wpQuiet_nil ?_
  refine wpM_read 2 rfl rfl (by kernel_rfl) (fun _ d _ _ _ h => by cases d <;> exact h) ?_
  go_big_quiet_step (fail)
  refine wpQuiet_nil ?_
  refine wpM_read 3 rfl rfl (by kernel_rfl) (fun _ d _ _ _ h => by cases d <;> exact h) ?_
  go_big_quiet_step (fail)
  refine wpQuiet_nil ?_
  refine wpM_read 4 rfl rfl (by kernel_rfl) (fun _ d _ _ _ h => by cases d <;> exact h) ?_
  go_big_quiet_step (fail)
  refine wpQuiet_nil ?_
  refine wpM_read 5 rfl rfl (by kernel_rfl) (fun _ d _ _ _ h => by cases d <;> exact h) ?_
  go_big_quiet_step (fail)
  refine wpQuiet_nil ?_
  refine wpM_read 6 rfl rfl (by kernel_rfl) (fun _ d _ _ _ h => by cases d <;> exact h) ?_
  go_big_quiet_step (fail)
  refine wpQuiet_nil ?_
  refine wpM_read 7 rfl rfl (by kernel_rfl) (fun _ d _ _ _ h => by cases d <;> exact h) ?_
  go_big_quiet_step (fail)
  refine wpQuiet_nil ?_
  refine wpM_read 8 rfl rfl (by kernel_rfl) (fun _ d _ _ _ h => by cases d <;> exact h) ?_
  go_big_quiet_step (fail)
  refine wpQuiet_nil ?_
  refine wpM_read 9 rfl rfl (by kernel_rfl) (fun _ d _ _ _ h => by cases d <;> exact h) ?_
  go_big_quiet_step (fail)
  refine wpQuiet_nil ?_
  refine wpM_read 10 rfl rfl (by kernel_rfl) (fun _ d _ _ _ h => by cases d <;> exact h) ?_
  go_big_quiet_step (fail)
  refine wpQuiet_nil ?_
  clear BW z0 z1 z2 gz1 gz2 gz3 f0 f1 f2 hov HRC HM0 HM1
  refine wpM_call 11 55 #[.agg #[.int .i64 mv.to, .int .i64 mv.dir], .int .i64 (n : Int)] (.agg #[.int .i64 bg.to, .int .i64 bg.dir]) rfl (by kernel_rfl) (fun _ d _ _ _ h => by cases d <;> exact h) rfl (fun x => by go_simp) (fun x _ => (hcl x).out) (fun K hK => ?_)
  go_simp
  refine hK _ ?_
  clear hK K hcl
  refine wpM_ready [12] (by kernel_rfl) (by decide) (AllM.cons rfl (fun w7 b7 K hK => ?_) AllM.nil)
  go_simp
  have b7a : le w7 (w7.alloc (.cells #[.int .i64 0, .int .i64 0] 65)) := (Below.refl _ _).alloc (Nat.le_refl _) _
  refine hK _ _ (.inr b7a) ?_
  clear hK K b7a
  replace S := (S.step b7).alloc (cs := #[.int .i64 0, .int .i64 0]) (ty := 65)
  generalize hW2 : w7.alloc _ = w8 at S ⊢
  clear hW2 b7
  obtain ⟨gm, hgm⟩ : ∃ g, g = w7.heap.size := ⟨_, rfl⟩
  rw [← hgm] at S ⊢
  clear hgm
  refine wpM_ready [13] (by kernel_rfl) (by decide) (AllM.cons rfl (fun w9 b9 K hK => ?_) AllM.nil)
  replace S := S.step b9
  clear b9
  have D := S.blk 0 rfl
  have a0 := D.cell 0 rfl
  have a1 := D.cell 1 rfl
  have af := D.free
  clear D
  go_simp
  refine hK _ _ (.inl (closes_of (by kernel_rfl))) ?_
  clear hK K
  refine wpM_done (by kernel_rfl) (fun w11 b11 => ?_)
  generalize hW3 : (w9.setCell _ _).setCell _ _ = w10 at b11
  have S10 : Star w w10 [oB gm [.int .i64 bg.to, .int .i64 bg.dir] 65, oB gh [.int .i64 H, .int .i64 (-1)] 65, oB (w.heap.size + 1 + 1) [.int .i64 0, .int .i64 0, .slice none 0 0] 32, oB (w.heap.size + 1) [.int .i64 (c : Int), .int .i64 (St : Int), .slice (some ⟨ua, up, none⟩) m bc] 32, oB w.heap.size [.int .i64 (c : Int), .int .i64 t.start, .slice (some ⟨ha, hp, none⟩) n tc] 32] := by rw [← hW3]; exact (S.set 0 _).set 1 _
  replace S := S10.step b11
  clear b11 hW3 a0 a1 af S10
  go_wp2_with fail
  refine (l02Copy_any t _ B w.heap.size _ (Nat.le_trans hB0 S.below.size) (by have := (S.blk 4 rfl).hd; rwa [← HC.out] at this) (movessE.rd_of (S.below.mono hB0) HK2.out) HV1.out rfl).mono ?_
  rintro e w14 ⟨cs, fp, rfl, o, nd, lo, b⟩
  obtain ⟨v5, rfl, -, -, o5⟩ := rd_Turner (Enc.rd_ow _ o)
  obtain ⟨oa, on, oc, rfl⟩ := rd_slice o5
  clear o5
  replace S := (S.made o nd lo b).moves
  clear o nd lo b
  have hol : t.moves.length = n := HN.out.symm
  obtain ⟨og, oc', hv, -, -, -, -⟩ := S.rows 0 rfl (by rw [hol]; omega)
  simp only [Value.slice.injEq] at hv
  obtain ⟨rfl, rfl, rfl⟩ := hv
  rw [hol] at S ⊢
  clear hol
  replace S := (S.alloc (cs := #[.int .i64 t.letters, .int .i64 t.start, .slice (some ⟨og, 0, none⟩) n oc]) (ty := 32))
  go_wp2
  generalize hW : w14.alloc _ = w15 at S ⊢
  clear hW
  obtain ⟨g10, hg10⟩ : ∃ g, g = w14.heap.size := ⟨_, rfl⟩
  rw [← hg10] at S ⊢
  clear hg10
  have wL : IntKind.i64.wrap ((c : Int) + 2) = (c : Int) + 2 := IntWalk.i64_in _ ⟨by omega, by omega⟩
  have HWL := Lib.hid wL
  clear wL
  go_loopw [10] (fun q wr => ∃ (j : Nat), j ≤ n ∧ q = .int .i64 j ∧ Star w wr [oB g10 [.int .i64 t.letters, .int .i64 t.start, .slice (some ⟨og, 0, none⟩) n oc] 32, oE movessE [.slice (some ⟨og, 0, none⟩) n oc] ((t.moves.take j).map (thenRow c H bg) ++ (t.moves.drop j).map id), oB gm [.int .i64 bg.to, .int .i64 bg.dir] 65, oB gh [.int .i64 H, .int .i64 (-1)] 65, oB (w.heap.size + 1 + 1) [.int .i64 0, .int .i64 0, .slice none 0 0] 32, oB (w.heap.size + 1) [.int .i64 (c : Int), .int .i64 (St : Int), .slice (some ⟨ua, up, none⟩) m bc] 32, oB w.heap.size [.int .i64 (c : Int), .int .i64 t.start, .slice (some ⟨ha, hp, none⟩) n tc] 32]) (fun q _ => n - (intOf q).toNat)
  case atStart => exact ⟨0, by omega, rfl, by rw [List.take_zero, List.drop_zero, List.map_id]; exact S⟩
  case round =>
    clear S
    obtain ⟨j, hj, rfl, S⟩ := hrel
    have x2 := (S.blk 0 rfl).cell 2 rfl
    by_cases hlt : j < n
    case neg =>
      obtain rfl : n = j := by omega
      have hfull : (t.moves.take n).map (thenRow c H bg) ++ (t.moves.drop n).map id = t.moves.map (thenRow c H bg) ++ (u.moves.take 0).map (List.map (raisedM n)) := by
        rw [HN.out, List.take_length, List.drop_length]
        simp
      rw [hfull] at S
      clear hfull hlt
      have hlL : (t.moves.map (thenRow c H bg)).length = n := by rw [List.length_map, ← HN.out]
      have HLL := Lib.hid hlL
      obtain ⟨L1, hL1⟩ : ∃ y, y = t.moves.map (thenRow c H bg) := ⟨_, rfl⟩
      have HTM : Hid (thenMs t u = L1 ++ u.moves.map (List.map (raisedM n)) ++ [(List.replicate (c + 2) (⟨H, -1⟩ : Move)).set c bg]) := Lib.hid (by rw [hL1]; exact HTM.out)
      rw [← hL1] at S HLL
      clear hL1 hlL
      replace S := S.sel [0, 2, 3, 4, 5, 6, 1]
      go_wp2
      clear x2
      go_loopw [12] (fun q wr => ∃ (s : Nat) (vm : Value), s ≤ m ∧ q = .int .i64 s ∧ Star w wr [oB g10 [.int .i64 t.letters, .int .i64 t.start, vm] 32, oB gm [.int .i64 bg.to, .int .i64 bg.dir] 65, oB gh [.int .i64 H, .int .i64 (-1)] 65, oB (w.heap.size + 1 + 1) [.int .i64 0, .int .i64 0, .slice none 0 0] 32, oB (w.heap.size + 1) [.int .i64 (c : Int), .int .i64 (St : Int), .slice (some ⟨ua, up, none⟩) m bc] 32, oB w.heap.size [.int .i64 (c : Int), .int .i64 t.start, .slice (some ⟨ha, hp, none⟩) n tc] 32, oE movessE [vm] (L1 ++ (u.moves.take s).map (List.map (raisedM n)))]) (fun q _ => m - (intOf q).toNat)
      case atStart => exact ⟨0, _, by omega, rfl, S⟩
      case round =>
        clear S
        obtain ⟨s, vm, hs, rfl, S⟩ := hrel
        obtain ⟨va, vn, vc, rfl⟩ := S.slc 6 rfl
        have f2 := (S.blk 4 rfl).cell 2 rfl
        by_cases hsm : s < m
        case neg =>
          obtain rfl : m = s := by omega
          have hfull : (u.moves.take m).map (List.map (raisedM n)) = u.moves.map (List.map (raisedM n)) := by rw [HM.out, List.take_length]
          rw [hfull] at S
          clear hfull hsm
          have hlL : (L1 ++ u.moves.map (List.map (raisedM n))).length ≤ 1000000000000 := by
            rw [List.length_append, HLL.out, List.length_map, ← HM.out]; omega
          obtain ⟨L2, hL2⟩ : ∃ y, y = L1 ++ u.moves.map (List.map (raisedM n)) := ⟨_, rfl⟩
          have HTM : Hid (thenMs t u = L2 ++ [(List.replicate (c + 2) (⟨H, -1⟩ : Move)).set c bg]) := Lib.hid (by rw [hL2]; exact HTM.out)
          rw [← hL2] at S hlL
          have HLM := Lib.hid hlL
          clear hL2 hlL
          replace S := ((S.alloc (cs := #[]) (ty := 65)).lit0 (α := Move) (E := moveE))
          go_wp2
          generalize hW : wr.alloc _ = w6 at S ⊢
          clear hW f2
          obtain ⟨g6, hg6⟩ : ∃ g, g = wr.heap.size := ⟨_, rfl⟩
          rw [← hg6] at S ⊢
          clear hg6
          go_loopw [15, 16] (fun vl q wr => ∃ (i : Nat) (v : Value), i ≤ c ∧ vl = v ∧ q = .int .i64 i ∧ Star w wr [oE movesE [v] (List.replicate i (⟨H, -1⟩ : Move)), oB g10 [.int .i64 t.letters, .int .i64 t.start, .slice va vn vc] 32, oB gm [.int .i64 bg.to, .int .i64 bg.dir] 65, oB gh [.int .i64 H, .int .i64 (-1)] 65, oB (w.heap.size + 1 + 1) [.int .i64 0, .int .i64 0, .slice none 0 0] 32, oB (w.heap.size + 1) [.int .i64 (c : Int), .int .i64 (St : Int), .slice (some ⟨ua, up, none⟩) m bc] 32, oB w.heap.size [.int .i64 (c : Int), .int .i64 t.start, .slice (some ⟨ha, hp, none⟩) n tc] 32, oE movessE [.slice va vn vc] L2]) (fun _ q _ => c - (intOf q).toNat)
          case atStart => exact ⟨0, _, by omega, rfl, rfl, S⟩
          case round =>
            clear S
            obtain ⟨i, v, hi, rfl, rfl, S⟩ := hrel
            obtain ⟨la, ln, lc, rfl⟩ := S.slc 0 rfl
            have d0 := (S.blk 6 rfl).cell 0 rfl
            by_cases hil : i < c
            case pos =>
              have h0 := (S.blk 3 rfl).cell 0 rfl
              have h1 := (S.blk 3 rfl).cell 1 rfl
              have hll : (List.replicate i (⟨H, -1⟩ : Move)).length ≤ 1000000000000 := by rw [List.length_replicate]; omega
              have SB := ((S.alloc (cs := #[.int .i64 H, .int .i64 (-1)]) (ty := 65)).move (x := H) (y := -1) (bd_i64 hHb) bdm1).sel [2, 0, 3, 4, 5, 6, 7, 8, 9]
              clear S
              go_wp2_with (at_builtin; refine st1_MoveS SB rfl rfl rfl rfl cell_a1 (one_mem2 rfl rfl) hll ?_; intro ja jn jc w9 S9)
              go_roundw
              case rel => exact ⟨i + 1, _, by omega, rfl, by go_num, by rw [List.replicate_succ']; exact S9⟩
              case measure => simp [intOf]; omega
            obtain rfl : c = i := by omega
            go_wp2
            clear d0
            go_cut [16] (fun s16 wx => ∃ (ja : Option Addr) (jn jc : Nat), Star w wx [oB g10 [.int .i64 t.letters, .int .i64 t.start, .slice ja jn jc] 32, oE movessE [.slice ja jn jc] (L2 ++ [List.replicate c (⟨H, -1⟩ : Move) ++ [bg, ⟨H, -1⟩]]), oB (w.heap.size + 1 + 1) [.int .i64 0, .int .i64 0, .slice none 0 0] 32])
            case first =>
              have x2 := (S.blk 1 rfl).cell 2 rfl
              have y0 := (S.blk 2 rfl).cell 0 rfl
              have y1 := (S.blk 2 rfl).cell 1 rfl
              have z0 := (S.blk 3 rfl).cell 0 rfl
              have z1 := (S.blk 3 rfl).cell 1 rfl
              have x2a := fun o => cell_al x2 o
              have hlm := HLM.out
              have hlr : (List.replicate c (⟨H, -1⟩ : Move)).length + [bg, (⟨H, -1⟩ : Move)].length ≤ 1000000000000 := by simp; omega
              have SA := ((S.alloc (cs := #[.int .i64 bg.to, .int .i64 bg.dir, .int .i64 H, .int .i64 (-1)]) (ty := 65)).sel [1, 2, 8, 5]).drew
              go_region_law (first
                | (with_reducible show (if _ then Oper.wp _ { dst := some 150, op := _, type := _, pos := _, after := _, guard := _ } _ _ _ _ else _)
                   refine sstS_MoveS (ys := [bg, ⟨H, -1⟩]) SA rfl rfl rfl (all2 (ow_move hb5.1 hb5.2 _) (ow_move (bd_i64 hHb) bdm1 _)) rfl (src_cells rfl (by first | exact cell_ad | exact cell_da | exact cell_a1) (one_ints [bg.to, bg.dir, H, -1])) hlr ?_
                   intro ta tn tc w8 S8
                   have x8 := (S8.blk 1 rfl).cell 2 rfl
                   have x8a := fun o => cell_al x8 o
                   have SC := (S8.alloc (cs := #[.slice ta tn tc]) (ty := 66)).sel [3, 1, 2, 4])
                | (with_reducible show (if _ then Oper.wp _ { dst := some 152, op := _, type := _, pos := _, after := _, guard := _ } _ _ _ _ else _)
                   refine sst1_MoveSS SC rfl rfl rfl rfl cell_a1 (one_mem rfl) hlm ?_
                   intro ua un uc w9 S9
                   have x9 := (S9.blk 1 rfl).cell 2 rfl
                   have cf := (S9.blk 1 rfl).free))
              all_goals
                go_wp2
                go_meet
                exact ⟨ua, un, uc, (S9.sel [1, 0, 2]).set 2 (.slice ua un uc)⟩
            case rest =>
              clear S
              obtain ⟨ja, jn, jc, S⟩ := hcut
              have hrw : List.replicate c (⟨H, -1⟩ : Move) ++ [bg, ⟨H, -1⟩] = (List.replicate (c + 2) (⟨H, -1⟩ : Move)).set c bg := by
                rw [← List.replicate_append_replicate (n := c) (m := 2), List.set_append_right _ _ (by simp)]
                simp
              rw [hrw, ← HTM.out] at S
              clear hrw
              have x0 := (S.blk 0 rfl).cell 0 rfl
              have x1 := (S.blk 0 rfl).cell 1 rfl
              have x2 := (S.blk 0 rfl).cell 2 rfl
              replace S := ((S.int k1).int k0).sel [1, 3, 0, 4]
              replace S : Star w wc [oE intE [.int .i64 t.letters] t.letters, oE (pairE intE movessE) [.int .i64 t.start, .slice ja jn jc] (t.start, thenMs t u), oB (w.heap.size + 1 + 1) [.int .i64 0, .int .i64 0, .slice none 0 0] 32] := S.pair.sel [1, 0, 2]
              replace S : Star w wc [oE turnE [.int .i64 t.letters, .int .i64 t.start, .slice ja jn jc] (thenT t u), oB (w.heap.size + 1 + 1) [.int .i64 0, .int .i64 0, .slice none 0 0] 32] := S.pair.via (F := fun r : Turner => (r.letters, r.start, r.moves)) (thenT t u) rfl
              go_wp2_with fail
              clear x0 x1 x2
              cases hv : validTurn (thenT t u)
              case false =>
                refine (toldT_no [.int .i64 t.letters, .int .i64 t.start, .slice ja jn jc] (thenT t u) _ wc (Nat.le_refl _) (S.rd 0 rfl) hv).mono ?_
                rintro e w16 ⟨rfl, b⟩
                replace S := (S.step b).sel [1]
                clear b
                have hto : x = (default, 3) := by rw [HX2.out, hv]; rfl
                have HT := Lib.hid hto
                clear hto
                have R0 := S.blk 0 rfl
                have c0 := R0.cell 0 rfl
                have c1 := R0.cell 1 rfl
                have c2 := R0.cell 2 rfl
                have f0 := R0.free
                go_wp2
                generalize hW : ((w16.setCell _ _).setCell _ _).setCell _ _ = w17
                replace S := S.set3 rfl hW
                have A3 := S.blk 0 rfl
                have q0 := A3.cell 0 rfl
                have q1 := A3.cell 1 rfl
                have q2 := A3.cell 2 rfl
                obtain rfl : x = (default, 3) := by exact HT.out
                exact bodyPost_ret (v := .tuple #[.agg #[.int .i64 0, .int .i64 0, .slice none 0 0], .int .i64 3]) (by simp [results, Tryd.results26, go_sem, q0, q1, q2]) rfl (S.flat (ow_Turner_zero _)).done
              refine (toldT_yes [.int .i64 t.letters, .int .i64 t.start, .slice ja jn jc] (thenT t u) _ wc (Nat.le_refl _) (S.rd 0 rfl) hv).mono ?_
              rintro e w16 ⟨rfl, b⟩
              replace S := S.step b
              clear b
              have hto : x = (thenT t u, 0) := by rw [HX2.out, hv]; rfl
              have HT := Lib.hid hto
              clear hto
              have R0 := S.blk 1 rfl
              have c0 := R0.cell 0 rfl
              have c1 := R0.cell 1 rfl
              have c2 := R0.cell 2 rfl
              have f0 := R0.free
              go_wp2
              generalize hW : ((w16.setCell _ _).setCell _ _).setCell _ _ = w17
              replace S := (S.sel [1, 0]).set3 rfl hW
              have A3 := S.blk 0 rfl
              have q0 := A3.cell 0 rfl
              have q1 := A3.cell 1 rfl
              have q2 := A3.cell 2 rfl
              obtain rfl := HT.out
              exact bodyPost_ret (v := .tuple #[.agg #[.int .i64 t.letters, .int .i64 t.start, .slice ja jn jc], .int .i64 0]) (by simp [results, Tryd.results26, go_sem, q0, q1, q2]) rfl (S.sel [1]).done
        obtain ⟨vk, hrc, hrd⟩ := O4.out s hsm
        have hs2 : s < u.moves.length := by rw [← HM.out]; exact hsm
        have hmem := mem_getD (l := u.moves) (k := s) hs2
        have hst : L1 ++ (u.moves.take (s + 1)).map (List.map (raisedM n)) = (L1 ++ (u.moves.take s).map (List.map (raisedM n))) ++ [(u.moves[s]?.getD default).map (raisedM n)] := by
          rw [List.take_succ_eq_append_getElem hs2, List.map_append, List.getElem?_eq_getElem hs2, List.append_assoc]
          rfl
        have hlm : (L1 ++ (u.moves.take s).map (List.map (raisedM n))).length ≤ 1000000000000 := by
          rw [List.length_append, HLL.out, List.length_map, List.length_take]; omega
        have hrow := (HKU.out.row _ hmem).2
        have hr5 := HKU.out.len hmem
        obtain ⟨row, hrow2⟩ : ∃ y, y = u.moves[s]?.getD default := ⟨_, rfl⟩
        rw [← hrow2] at hrd hrow hst hr5
        obtain ⟨ma, mc, rfl, m1, m2, -, m4⟩ := rd_movesE hrd
        obtain ⟨rl, hrl⟩ : ∃ y, y = row.length := ⟨_, rfl⟩
        rw [← hrl] at m1 m4 hrc hr5
        have HST := Lib.hid hst; have HROW := Lib.hid hrow; have M4 := Lib.hid m4; have HRL := Lib.hid hrl; have HRC := Lib.hid hrc; have HLM := Lib.hid hlm
        have i1 : (0 : Int) ≤ (s : Int) := by omega
        have i2 : (s : Int) < (m : Int) := by omega
        clear hmem hst hrow hrow2 hrd m4 hrl hrc hlm hs2
        replace S := ((S.alloc (cs := #[]) (ty := 65)).lit0 (α := Move) (E := moveE))
        go_wp2
        generalize hW : wr.alloc _ = w6 at S ⊢
        clear hW f2
        obtain ⟨g6, hg6⟩ : ∃ g, g = wr.heap.size := ⟨_, rfl⟩
        rw [← hg6] at S ⊢
        clear hg6
        go_loopw [13, 14] (fun vl q wr => ∃ (i : Nat) (v : Value), i ≤ rl ∧ vl = v ∧ q = .int .i64 i ∧ Star w wr [oE movesE [v] ((row.take i).map (raisedM n)), oB g10 [.int .i64 t.letters, .int .i64 t.start, .slice va vn vc] 32, oB gm [.int .i64 bg.to, .int .i64 bg.dir] 65, oB gh [.int .i64 H, .int .i64 (-1)] 65, oB (w.heap.size + 1 + 1) [.int .i64 0, .int .i64 0, .slice none 0 0] 32, oB (w.heap.size + 1) [.int .i64 (c : Int), .int .i64 (St : Int), .slice (some ⟨ua, up, none⟩) m bc] 32, oB w.heap.size [.int .i64 (c : Int), .int .i64 t.start, .slice (some ⟨ha, hp, none⟩) n tc] 32, oE movessE [.slice va vn vc] (L1 ++ (u.moves.take s).map (List.map (raisedM n)))]) (fun _ q _ => rl - (intOf q).toNat)
        case atStart => exact ⟨0, _, by omega, rfl, rfl, S⟩
        case round =>
          clear S
          obtain ⟨i, v, hi, rfl, rfl, S⟩ := hrel
          obtain ⟨la, ln, lc, rfl⟩ := S.slc 0 rfl
          have f2 := (S.blk 5 rfl).cell 2 rfl
          have BW := S.below
          have cr := (BW.cell (World.block_lt_of_cell? w _ HRC.out)).trans HRC.out
          by_cases hil : i < rl
          case neg =>
            obtain rfl : rl = i := by omega
            have hfull : row.take rl = row := by rw [HRL.out]; exact List.take_length
            rw [hfull] at S
            have hlm := HLM.out
            have x2 := (S.blk 1 rfl).cell 2 rfl
            have SC := (S.alloc (cs := #[.slice la ln lc]) (ty := 66)).sel [8, 1, 2, 3, 4, 5, 6, 7]
            go_wp2_with (at_builtin; refine st1_MoveSS SC rfl rfl rfl rfl cell_a1 (one_mem rfl) hlm ?_; intro ja jn jc w9 S9; have x9 := (S9.blk 1 rfl).cell 2 rfl; have cf := (S9.blk 1 rfl).free)
            go_roundw
            case rel => exact ⟨s + 1, _, by omega, by go_num, by rw [HST.out]; exact ((S9.sel [1, 2, 3, 4, 5, 6, 0]).set 2 (.slice ja jn jc))⟩
            case measure => simp [intOf]; omega
          obtain ⟨sb, so, rfl, -, ⟨hm0, hm1⟩, -⟩ := M4.out i hil
          have hok := moveOk_bdj (HROW.out i (by rw [← HRL.out]; exact hil))
          have hst2 : (row.take (i + 1)).map (raisedM n) = (row.take i).map (raisedM n) ++ [raisedM n (row[i]?.getD default)] := by
            have hi2 : i < row.length := by rw [← HRL.out]; exact hil
            rw [List.take_succ_eq_append_getElem hi2, List.map_append, List.getElem?_eq_getElem hi2]
            rfl
          have hll : ((row.take i).map (raisedM n)).length ≤ 1000000000000 := by rw [List.length_map, List.length_take]; omega
          obtain ⟨mv, hmv⟩ : ∃ y, y = row[i]?.getD default := ⟨_, rfl⟩
          rw [← hmv] at hm0 hm1 hok hst2
          rw [← HM.out] at hok
          obtain ⟨⟨ht2, htm⟩, hd1, hd2⟩ := hok
          have hbt : -2 ≤ mv.to ∧ mv.to ≤ 100 := ⟨by omega, by omega⟩
          have hbd : -1 ≤ mv.dir ∧ mv.dir ≤ 1 := ⟨hd1, hd2⟩
          have HS2 := Lib.hid hst2
          have q0 := (BW.cell (World.block_lt_of_cell? w _ hm0)).trans hm0
          have q1 := (BW.cell (World.block_lt_of_cell? w _ hm1)).trans hm1
          have i3 : (0 : Int) ≤ (i : Int) := by omega
          have i4 : (i : Int) < (rl : Int) := by omega
          clear hm0 hm1 hst2 hmv BW
          go_wp2_with fail
          clear q0 q1 f2 cr
          refine (l02Raised_any (n : Int) ⟨by omega, by omega⟩ mv hbt hbd wr).mono ?_
          rintro e w8 ⟨rfl, b8⟩
          replace S := S.step b8
          clear b8
          have hb3 := (raisedM_bd (n : Int) ⟨by omega, by omega⟩ mv hbt hbd)
          obtain ⟨nm, hnm⟩ : ∃ y, y = raisedM (n : Int) mv := ⟨_, rfl⟩
          rw [← hnm] at hb3 ⊢
          have HSTEP := HS2
          rw [← hnm] at HSTEP
          clear hnm HS2
          have SB := ((S.alloc (cs := #[.int .i64 nm.to, .int .i64 nm.dir]) (ty := 65)).move (x := nm.to) (y := nm.dir) hb3.1 hb3.2).sel [2, 0, 3, 4, 5, 6, 7, 8, 9]
          clear S
          go_wp2_with (at_builtin; refine st1_MoveS SB rfl rfl rfl rfl cell_a1 (one_mem2 rfl rfl) hll ?_; intro ja jn jc w9 S9)
          go_roundw
          case rel => exact ⟨i + 1, _, by omega, rfl, by go_num, by rw [HSTEP.out]; exact S9⟩
          case measure => simp [intOf]; omega
    have hj2 : j < t.moves.length := by rw [← HN.out]; exact hlt
    have hmem : t.moves[j] ∈ t.moves := List.getElem_mem hj2
    have hlen := (HKT.out.row _ hmem).1
    rw [HC.out] at hlen
    have hmg := mix_get (thenRow c H bg) id t.moves j hj2
    have hms := mix_set (thenRow c H bg) id t.moves j hj2
    have hml := mix_len (thenRow c H bg) id t.moves j
    obtain ⟨row, hrow2⟩ : ∃ y, y = t.moves[j] := ⟨_, rfl⟩
    rw [← hrow2] at hlen hmg hms
    have hl2 : row.length = c + 2 := by omega
    obtain ⟨M, hM⟩ : ∃ y, y = (t.moves.take j).map (thenRow c H bg) ++ (t.moves.drop j).map id := ⟨_, rfl⟩
    rw [← hM] at hmg hms hml S
    have hs0 := set_self M j row hmg
    have hfl : (thenRow c H bg row).length = row.length := thenRow_len _ _ _ _
    rw [← HN.out] at hml
    have HMS := Lib.hid hms; have HML := Lib.hid hml; have HL2 := Lib.hid hl2; have HFL := Lib.hid hfl
    have hS0 : Star w wr [oB g10 [.int .i64 t.letters, .int .i64 t.start, .slice (some ⟨og, 0, none⟩) n oc] 32, oE movessE [.slice (some ⟨og, 0, none⟩) n oc] (M.set j ((thenRow c H bg row).take 0 ++ row.drop 0)), oB gm [.int .i64 bg.to, .int .i64 bg.dir] 65, oB gh [.int .i64 H, .int .i64 (-1)] 65, oB (w.heap.size + 1 + 1) [.int .i64 0, .int .i64 0, .slice none 0 0] 32, oB (w.heap.size + 1) [.int .i64 (c : Int), .int .i64 (St : Int), .slice (some ⟨ua, up, none⟩) m bc] 32, oB w.heap.size [.int .i64 (c : Int), .int .i64 t.start, .slice (some ⟨ha, hp, none⟩) n tc] 32] := by
      rw [List.take_zero, List.drop_zero, List.nil_append, hs0]; exact S
    have i1 : (0 : Int) ≤ (j : Int) := by omega
    have i2 : (j : Int) < (n : Int) := by omega
    clear S hs0 hms hml hmem hlen hrow2 hM hj2 hmg hfl hl2
    go_wp2
    clear x2
    go_loopw [11] (fun q wr => ∃ (k : Nat), k ≤ c + 2 ∧ q = .int .i64 k ∧ Star w wr [oB g10 [.int .i64 t.letters, .int .i64 t.start, .slice (some ⟨og, 0, none⟩) n oc] 32, oE movessE [.slice (some ⟨og, 0, none⟩) n oc] (M.set j ((thenRow c H bg row).take k ++ row.drop k)), oB gm [.int .i64 bg.to, .int .i64 bg.dir] 65, oB gh [.int .i64 H, .int .i64 (-1)] 65, oB (w.heap.size + 1 + 1) [.int .i64 0, .int .i64 0, .slice none 0 0] 32, oB (w.heap.size + 1) [.int .i64 (c : Int), .int .i64 (St : Int), .slice (some ⟨ua, up, none⟩) m bc] 32, oB w.heap.size [.int .i64 (c : Int), .int .i64 t.start, .slice (some ⟨ha, hp, none⟩) n tc] 32]) (fun q _ => c + 2 - (intOf q).toNat)
    case atStart => exact ⟨0, by omega, rfl, hS0⟩
    case round =>
      clear hS0
      obtain ⟨k, hk, rfl, S⟩ := hrel
      have d0 := (S.blk 6 rfl).cell 0 rfl
      have wL := HWL.out
      by_cases hkl : k < c + 2
      case neg =>
        obtain rfl : k = c + 2 := by omega
        have hfin : M.set j ((thenRow c H bg row).take (c + 2) ++ row.drop (c + 2)) = (t.moves.take (j + 1)).map (thenRow c H bg) ++ (t.moves.drop (j + 1)).map id := by
          rw [List.take_of_length_le (by rw [HFL.out, HL2.out]; exact Nat.le_refl _), List.drop_of_length_le (by rw [HL2.out]; exact Nat.le_refl _), List.append_nil, HMS.out]
        have HFIN := Lib.hid hfin
        clear hfin
        have t5 : ¬ ((c + 2 : Nat) : Int) < (c : Int) + 2 := by omega
        go_wp2
        go_roundw
        case rel => exact ⟨j + 1, by omega, by go_num, by rw [← HFIN.out]; exact S⟩
        case measure => simp [intOf]; omega
      have t5 : (k : Int) < (c : Int) + 2 := by omega
      have hkr : k < row.length := by rw [HL2.out]; exact hkl
      have hhl := half_len (thenRow c H bg row) row k HFL.out
      have hhg := half_get (thenRow c H bg row) row k HFL.out hkr
      have hcell := thenRow_get c H bg row (by rw [HL2.out]; omega) k hkr
      have hjm : j < M.length := by rw [HML.out]; exact hlt
      obtain ⟨hr, hhr⟩ : ∃ y, y = (thenRow c H bg row).take k ++ row.drop k := ⟨_, rfl⟩
      rw [← hhr] at hhl hhg S
      have hMj : (M.set j hr)[j]? = some hr := List.getElem?_set_self hjm
      obtain ⟨og', oc', hv, -, -, -, n4⟩ := S.rows 1 rfl (by rw [List.length_set, HML.out]; omega)
      simp only [Value.slice.injEq, Option.some.injEq, Addr.mk.injEq, and_true] at hv
      obtain ⟨rfl, -, rfl⟩ := hv
      obtain ⟨rb, rc, r1, r2, -, rf, r5⟩ := n4 j hr hMj (by rw [hhl, HL2.out]; omega)
      rw [hhl, HL2.out] at r1 r2
      obtain ⟨ys, s1, s2⟩ := r5 k row[k] hhg
      obtain ⟨rfl, -, -⟩ := rd_move2 s1
      have hrk : row[k]?.getD default = row[k] := by rw [List.getElem?_eq_getElem hkr]; rfl
      obtain ⟨mv, hmv⟩ : ∃ y, y = row[k] := ⟨_, rfl⟩
      rw [← hmv] at s2 hrk hhg
      have HHG := Lib.hid hhg
      have y0 : wr.cell? ⟨rb, k * 2, none⟩ = some (.int .i64 mv.to) := s2 0 _ rfl
      have y1 : wr.cell? ⟨rb, k * 2 + 1, none⟩ = some (.int .i64 mv.dir) := s2 1 _ rfl
      have x2 := (S.blk 0 rfl).cell 2 rfl
      have i3 : (0 : Int) ≤ (k : Int) := by omega
      have i4 : (k : Int) < ((c + 2 : Nat) : Int) := by omega
      have HCELL := Lib.hid hcell; have HHR := Lib.hid hhr; have HMJ := Lib.hid hMj; have HRK := Lib.hid hrk; have HHL := Lib.hid hhl
      have HHS := fun y => Lib.hid (half_set (thenRow c H bg row) row k HFL.out hkr (y := y))
      clear n4 s1 s2 r5 hhg hcell hhr hMj hrk hhl hmv hjm hkr
      by_cases hto : mv.to = -1
      case neg =>
        have tB : (mv.to != -1) = true := by simpa using hto
        have hce : thenCell c H bg row k = mv := by unfold thenCell; rw [HRK.out, if_neg hto]
        have hsame : (thenRow c H bg row).take (k + 1) ++ row.drop (k + 1) = hr := by
          rw [← (HHS _).out HCELL.out, ← HHR.out, hce]
          exact set_self hr k _ HHG.out
        have HSA := Lib.hid hsame
        clear hsame hce rf
        go_wp2
        go_roundw
        case rel => exact ⟨k + 1, by omega, by go_num, by rw [HSA.out]; exact S⟩
        case measure => simp [intOf]; omega
      have tB : (mv.to != -1) = false := by simpa using hto
      go_wp2
      have gg1 : og < wr.heap.size := World.block_lt_of_cell? wr _ r1
      have gg2 : rb < wr.heap.size := World.block_lt_of_cell? wr _ y0
      refine wp_region_m 9 (by kernel_rfl) rfl ?_
      intro w6 b6
      replace S := S.step b6
      have z0 := (b6.cell gg1).trans r1
      have z1 := (b6.cell gg2).trans y0
      have z2 := (b6.cell gg2).trans y1
      have gz1 : og < w6.heap.size := Nat.lt_of_lt_of_le gg1 b6.size
      have gz2 : rb < w6.heap.size := Nat.lt_of_lt_of_le gg2 b6.size
      have zf : ∀ k, w6.frozen? ⟨rb, k, none⟩ = false := fun k => by rw [b6.frozen gg2]; exact rf k
      clear y0 y1 r1 gg1 gg2 b6 rf d0 x2
      have f2 := (S.blk 0 rfl).cell 2 rfl
      have f4 := (S.blk 3 rfl).cell 0 rfl
      have f5 := (S.blk 3 rfl).cell 1 rfl
      have gz3 := (S.blk 0 rfl).lt
      have gz5 := (S.blk 3 rfl).lt
      have hov := cell_over w6
      refine wpM_read 0 rfl rfl (by kernel_rfl) (fun _ d _ _ _ h => by cases d <;> exact h) ?_
      go_big_quiet_step (fail)
      refine wpQuiet_nil ?_
      refine wpM_read 1 rfl rfl (by kernel_rfl) (fun _ d _ _ _ h => by cases d <;> exact h) ?_
      go_big_quiet_step (fail)
      refine wpQuiet_nil ?_
      refine wpM_read 2 rfl rfl (by kernel_rfl) (fun _ d _ _ _ h => by cases d <;> exact h) ?_
      go_big_quiet_step (fail)
      refine wpQuiet_nil ?_
      refine wpM_read 3 rfl rfl (by kernel_rfl) (fun _ d _ _ _ h => by cases d <;> exact h) ?_
      go_big_quiet_step (fail)
      refine wpQuiet_nil ?_
      refine wpM_read 4 rfl rfl (by kernel_rfl) (fun _ d _ _ _ h => by cases d <;> exact h) ?_
      go_big_quiet_step (fail)
      refine wpQuiet_nil ?_
      refine wpM_read 5 rfl rfl (by kernel_rfl) (fun _ d _ _ _ h => by cases d <;> exact h) ?_
      go_big_quiet_step (fail)
      refine wpQuiet_nil ?_
      refine wpM_read 6 rfl rfl (by kernel_rfl) (fun _ d _ _ _ h => by cases d <;> exact h) ?_
      go_big_quiet_step (fail)
      refine wpQuiet_nil ?_
      refine wpM_read 7 rfl rfl (by kernel_rfl) (fun _ d _ _ _ h => by cases d <;> exact h) ?_
      go_big_quiet_step (fail)
      refine wpQuiet_nil ?_
      refine wpM_ready [8] (by kernel_rfl) (by decide) (AllM.cons rfl (fun w9 b9 K hK => ?_) AllM.nil)
      replace S := S.step b9
      have y0 := (b9.cell gz2).trans z1
      have y1 := (b9.cell gz2).trans z2
      have r1 := (b9.cell gz1).trans z0
      have rf : ∀ k, w9.frozen? ⟨rb, k, none⟩ = false := fun k => by rw [b9.frozen gz2]; exact zf k
      clear b9 gz1 gz2 gz3 gz5 hov f2 f4 f5 z0 z1 z2 zf
      go_simp
      refine hK _ _ (.inl (closes_of (by kernel_rfl))) ?_
      clear hK K
      refine wpM_done (by kernel_rfl) (fun w11 b11 => ?_)
      generalize hW3 : (w9.setCell _ _).setCell _ _ = w10 at b11
      have SM := (S.sel [1, 0, 2, 3, 4, 5, 6]).setMove j hr HMJ.out r1 k H (-1) (bd_i64 hHb) bdm1
      rw [hW3, List.set_set] at SM
      replace S := (SM.step b11).sel [1, 0, 2, 3, 4, 5, 6]
      clear b11 hW3 SM y0 y1 rf r1
      have d0 := (S.blk 6 rfl).cell 0 rfl
      by_cases hkc : k = c
      case neg =>
        have tC : ((k : Int) == (c : Int)) = false := beq_false_of_ne (by omega)
        have hce : thenCell c H bg row k = ⟨H, -1⟩ := by unfold thenCell; rw [HRK.out, if_pos hto, if_neg hkc]
        have hnew : hr.set k ⟨H, -1⟩ = (thenRow c H bg row).take (k + 1) ++ row.drop (k + 1) := by
          rw [← (HHS _).out HCELL.out, ← HHR.out, hce]
        have HNW := Lib.hid hnew
        clear hnew hce
        go_wp2
        go_roundw
        case rel => exact ⟨k + 1, by omega, by go_num, by rw [← HNW.out]; exact S⟩
        case measure => simp [intOf]; omega
      obtain rfl : c = k := hkc.symm
      have tC : ((c : Int) == (c : Int)) = true := by simp
      go_wp2
      have hMj : (M.set j (hr.set c ⟨H, -1⟩))[j]? = some (hr.set c ⟨H, -1⟩) := List.getElem?_set_self (by rw [HML.out]; exact hlt)
      obtain ⟨og', oc', hv, -, -, -, n4⟩ := S.rows 1 rfl (by rw [List.length_set, HML.out]; omega)
      simp only [Value.slice.injEq, Option.some.injEq, Addr.mk.injEq, and_true] at hv
      obtain ⟨rfl, -, rfl⟩ := hv
      obtain ⟨rb, rc, r1, r2, -, rf, r5⟩ := n4 j _ hMj (by rw [List.length_set, HHL.out, HL2.out]; omega)
      rw [List.length_set, HHL.out, HL2.out] at r1 r2
      obtain ⟨ys, s1, s2⟩ := r5 c ⟨H, -1⟩ (List.getElem?_set_self (by rw [HHL.out, HL2.out]; omega))
      obtain ⟨rfl, -, -⟩ := rd_move2 s1
      have y0 : w11.cell? ⟨rb, c * 2, none⟩ = some (.int .i64 H) := s2 0 _ rfl
      have y1 : w11.cell? ⟨rb, c * 2 + 1, none⟩ = some (.int .i64 (-1)) := s2 1 _ rfl
      have HMJ2 := Lib.hid hMj
      clear n4 s1 s2 r5 hMj d0
      have gg1 : og < w11.heap.size := World.block_lt_of_cell? w11 _ r1
      have gg2 : rb < w11.heap.size := World.block_lt_of_cell? w11 _ y0
      refine wp_region_m 9 (by kernel_rfl) rfl ?_
      intro w6 b6
      replace S := S.step b6
      have z0 := (b6.cell gg1).trans r1
      have z1 := (b6.cell gg2).trans y0
      have z2 := (b6.cell gg2).trans y1
      have gz1 : og < w6.heap.size := Nat.lt_of_lt_of_le gg1 b6.size
      have gz2 : rb < w6.heap.size := Nat.lt_of_lt_of_le gg2 b6.size
      have zf : ∀ k, w6.frozen? ⟨rb, k, none⟩ = false := fun k => by rw [b6.frozen gg2]; exact rf k
      clear y0 y1 r1 gg1 gg2 b6 rf
      have f2 := (S.blk 0 rfl).cell 2 rfl
      have f4 := (S.blk 2 rfl).cell 0 rfl
      have f5 := (S.blk 2 rfl).cell 1 rfl
      have gz3 := (S.blk 0 rfl).lt
      have gz5 := (S.blk 2 rfl).lt
      have hov := cell_over w6
      refine wpM_read 0 rfl rfl (by kernel_rfl) (fun _ d _ _ _ h => by cases d <;> exact h) ?_
      go_big_quiet_step (fail)
      refine wpQuiet_nil ?_
      refine wpM_read 1 rfl rfl (by kernel_rfl) (fun _ d _ _ _ h => by cases d <;> exact h) ?_
      go_big_quiet_step (fail)
      refine wpQuiet_nil ?_
      refine wpM_read 2 rfl rfl (by kernel_rfl) (fun _ d _ _ _ h => by cases d <;> exact h) ?_
      go_big_quiet_step (fail)
      refine wpQuiet_nil ?_
      refine wpM_read 3 rfl rfl (by kernel_rfl) (fun _ d _ _ _ h => by cases d <;> exact h) ?_
      go_big_quiet_step (fail)
      refine wpQuiet_nil ?_
      refine wpM_read 4 rfl rfl (by kernel_rfl) (fun _ d _ _ _ h => by cases d <;> exact h) ?_
      go_big_quiet_step (fail)
      refine wpQuiet_nil ?_
      refine wpM_read 5 rfl rfl (by kernel_rfl) (fun _ d _ _ _ h => by cases d <;> exact h) ?_
      go_big_quiet_step (fail)
      refine wpQuiet_nil ?_
      refine wpM_read 6 rfl rfl (by kernel_rfl) (fun _ d _ _ _ h => by cases d <;> exact h) ?_
      go_big_quiet_step (fail)
      refine wpQuiet_nil ?_
      refine wpM_read 7 rfl rfl (by kernel_rfl) (fun _ d _ _ _ h => by cases d <;> exact h) ?_
      go_big_quiet_step (fail)
      refine wpQuiet_nil ?_
      refine wpM_ready [8] (by kernel_rfl) (by decide) (AllM.cons rfl (fun w9 b9 K hK => ?_) AllM.nil)
      replace S := S.step b9
      have y0 := (b9.cell gz2).trans z1
      have y1 := (b9.cell gz2).trans z2
      have r1 := (b9.cell gz1).trans z0
      have rf : ∀ k, w9.frozen? ⟨rb, k, none⟩ = false := fun k => by rw [b9.frozen gz2]; exact zf k
      clear b9 gz1 gz2 gz3 gz5 hov f2 f4 f5 z0 z1 z2 zf
      go_simp
      refine hK _ _ (.inl (closes_of (by kernel_rfl))) ?_
      clear hK K
      refine wpM_done (by kernel_rfl) (fun w12 b12 => ?_)
      generalize hW3 : (w9.setCell _ _).setCell _ _ = w10 at b12
      have SM := (S.sel [1, 0, 2, 3, 4, 5, 6]).setMove j _ HMJ2.out r1 c bg.to bg.dir hb5.1 hb5.2
      have hce : thenCell c H bg row c = bg := by unfold thenCell; rw [HRK.out, if_pos hto, if_pos rfl]
      have hnew : (hr.set c ⟨H, -1⟩).set c bg = (thenRow c H bg row).take (c + 1) ++ row.drop (c + 1) := by
        rw [List.set_set, ← (HHS _).out HCELL.out, ← HHR.out, hce]
      rw [hW3, List.set_set, hnew] at SM
      replace S := (SM.step b12).sel [1, 0, 2, 3, 4, 5, 6]
      clear b12 hW3 SM y0 y1 rf r1 hnew hce
      go_wp2
      go_roundw
      case rel => exact ⟨c + 1, by omega, by go_num, S⟩
      case measure => simp [intOf]

end Go.Proofs.YtnkhgfdlehhjmaaDoor
