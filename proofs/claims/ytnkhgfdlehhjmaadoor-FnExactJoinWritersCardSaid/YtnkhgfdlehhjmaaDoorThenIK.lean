/-
  ThenTurner of the program (written by a program of this claim's own, gen_join.py).
-/
import Derived.Test.YtnkhgfdlehhjmaaDoorRaisedK
import Derived.Test.YtnkhgfdlehhjmaaDoorChgHomeK
import Derived.Test.YtnkhgfdlehhjmaaDoorPackA
import Derived.Test.YtnkhgfdlehhjmaaDoorTurnOrK
import Derived.Test.YtnkhgfdlehhjmaaDoorRepeatK
import Derived.Test.YtnkhgfdlehhjmaaDoorNthTurnK
import Derived.Test.YtnkhgfdlehhjmaaDoorCalmK
import Derived.Deep.DeepCutAuto
namespace Go.Proofs.YtnkhgfdlehhjmaaDoor
open Go.RowKit

set_option maxHeartbeats 8000000 in
set_option maxRecDepth 100000 in
theorem thenTurner_is (x : Turner × Int) (cs : List Value) (t : Turner) (ds : List Value) (u : Turner) (B : Nat) (w : World) (hB0 : B ≤ w.heap.size) (h : turnE.rd w B cs t) (h' : turnE.rd w B ds u) (hx : thenTurner t u = x) :
    Calls Tryd.prog 29 #[.agg cs.toArray, .agg ds.toArray] w (MakesC turnE x w) := by
  have HX := Lib.hid hx
  have RA := Lib.hid h
  have RB := Lib.hid h'
  obtain ⟨v2, rfl, k0, k1, k2⟩ := rd_Turner h
  obtain ⟨u2, rfl, j0, j1, j2⟩ := rd_Turner h'
  have K2 := Lib.hid k2; have J2 := Lib.hid j2
  obtain ⟨ta, tn, tc, rfl⟩ := rd_slice k2
  obtain ⟨ba, bn, bc, rfl⟩ := rd_slice j2
  clear hx h h' k2 j2
  have S := (((Star.nil w).alloc (cs := #[.int .i64 t.letters, .int .i64 t.start, .slice ta tn tc]) (ty := 32)).alloc (cs := #[.int .i64 u.letters, .int .i64 u.start, .slice ba bn bc]) (ty := 32)).alloc (cs := #[.int .i64 0, .int .i64 0, .slice none 0 0]) (ty := 32)
  rw [World.size_alloc, World.size_alloc] at S
  go_enter Tryd.func29, Tryd.ntmps29
  go_wp2_with fail
  generalize hW : ((w.alloc _).alloc _).alloc _ = w0 at S ⊢
  clear hW
  replace S : Star w w0 [oB (w.heap.size + 1 + 1) [.int .i64 0, .int .i64 0, .slice none 0 0] 32, oB (w.heap.size + 1) [.int .i64 u.letters, .int .i64 u.start, .slice ba bn bc] 32, oB w.heap.size [.int .i64 t.letters, .int .i64 t.start, .slice ta tn tc] 32] := S
  refine (validTurn_any _ t B _ (Nat.le_trans hB0 S.below.size) (turnE.rd_of (S.below.mono hB0) RA.out)).mono ?_
  rintro e w1 ⟨rfl, b⟩
  replace S := S.step b
  clear b
  cases h1 : validTurn t
  case false =>
    clear K2 J2
    have R0 := S.blk 0 rfl
    have c0 := R0.cell 0 rfl
    have c1 := R0.cell 1 rfl
    have c2 := R0.cell 2 rfl
    have f0 := R0.free
    go_wp2
    generalize hW : ((w1.setCell _ _).setCell _ _).setCell _ _ = w9
    replace S := S.set3 rfl hW
    have A3 := S.blk 0 rfl
    have q0 := A3.cell 0 rfl
    have q1 := A3.cell 1 rfl
    have q2 := A3.cell 2 rfl
    obtain rfl : x = (default, 1) := by rw [← HX.out]; unfold thenTurner; rw [h1]; rfl
    exact bodyPost_ret (v := .tuple #[.agg #[.int .i64 0, .int .i64 0, .slice none 0 0], .int .i64 1]) (by simp [results, Tryd.results29, go_sem, q0, q1, q2]) rfl (S.flat (ow_Turner_zero _)).done
  have e0 := (S.blk 1 rfl).cell 0 rfl
  have e1 := (S.blk 1 rfl).cell 1 rfl
  have e2 := (S.blk 1 rfl).cell 2 rfl
  go_wp2_with fail
  clear e0 e1 e2
  refine (validTurn_any _ u B _ (Nat.le_trans hB0 S.below.size) (turnE.rd_of (S.below.mono hB0) RB.out)).mono ?_
  rintro e w2 ⟨rfl, b⟩
  replace S := S.step b
  clear b
  cases h2 : validTurn u
  case false =>
    clear K2 J2
    have R0 := S.blk 0 rfl
    have c0 := R0.cell 0 rfl
    have c1 := R0.cell 1 rfl
    have c2 := R0.cell 2 rfl
    have f0 := R0.free
    go_wp2
    generalize hW : ((w2.setCell _ _).setCell _ _).setCell _ _ = w9
    replace S := S.set3 rfl hW
    have A3 := S.blk 0 rfl
    have q0 := A3.cell 0 rfl
    have q1 := A3.cell 1 rfl
    have q2 := A3.cell 2 rfl
    obtain rfl : x = (default, 1) := by rw [← HX.out]; unfold thenTurner; rw [h1, h2]; rfl
    exact bodyPost_ret (v := .tuple #[.agg #[.int .i64 0, .int .i64 0, .slice none 0 0], .int .i64 1]) (by simp [results, Tryd.results29, go_sem, q0, q1, q2]) rfl (S.flat (ow_Turner_zero _)).done
  have e0 := (S.blk 1 rfl).cell 0 rfl
  have d0 := (S.blk 2 rfl).cell 0 rfl
  by_cases h3 : t.letters = u.letters
  case neg =>
    have t3 : (t.letters != u.letters) = true := by simpa using h3
    clear K2 J2
    have R0 := S.blk 0 rfl
    have c0 := R0.cell 0 rfl
    have c1 := R0.cell 1 rfl
    have c2 := R0.cell 2 rfl
    have f0 := R0.free
    go_wp2
    generalize hW : ((w2.setCell _ _).setCell _ _).setCell _ _ = w9
    replace S := S.set3 rfl hW
    have A3 := S.blk 0 rfl
    have q0 := A3.cell 0 rfl
    have q1 := A3.cell 1 rfl
    have q2 := A3.cell 2 rfl
    obtain rfl : x = (default, 2) := by rw [← HX.out]; unfold thenTurner; rw [h1, h2]; show (if t.letters = u.letters then _ else _) = _; rw [if_neg h3]
    exact bodyPost_ret (v := .tuple #[.agg #[.int .i64 0, .int .i64 0, .slice none 0 0], .int .i64 2]) (by simp [results, Tryd.results29, go_sem, q0, q1, q2]) rfl (S.flat (ow_Turner_zero _)).done
  have t3 : (t.letters != u.letters) = false := by simpa using h3
  have KT := turnOk_of h1
  have KU := turnOk_of h2
  obtain ⟨n, hn⟩ : ∃ n, n = t.moves.length := ⟨_, rfl⟩
  obtain ⟨m, hm⟩ : ∃ m, m = u.moves.length := ⟨_, rfl⟩
  have hn12 : n ≤ 12 := by rw [hn]; exact KT.n12
  have hm12 : m ≤ 12 := by rw [hm]; exact KU.n12
  have hn1 : 1 ≤ n := by rw [hn]; exact KT.n1
  have hm1 : 1 ≤ m := by rw [hm]; exact KU.n1
  have hX : x = (if validTurn (thenT t u) then (thenT t u, 0) else (default, 3)) := by rw [← HX.out]; unfold thenTurner; rw [h1, h2]; show (if t.letters = u.letters then _ else _) = _; rw [if_pos h3]
  obtain ⟨c, hc⟩ : ∃ c : Nat, t.letters = c := ⟨t.letters.toNat, by have := KT.l1; omega⟩
  have hc1 : 1 ≤ c := by have := KT.l1; omega
  have hc3 : c ≤ 3 := by have := KT.l3; omega
  obtain ⟨St, hSt⟩ : ∃ k : Nat, u.start = k := ⟨u.start.toNat, by have := KU.s0; omega⟩
  have hStm : St < m := by have := KU.s1; omega
  have hcu : u.letters = c := by rw [← h3, hc]
  have hpre : beginM t u = raisedM n ((u.moves[St]?.getD default)[c]?.getD default) := by unfold beginM; rw [hSt, hcu, ← hn]; rfl
  have hTM : thenMs t u = t.moves.map (thenRow c ((n : Int) + m) (beginM t u)) ++ u.moves.map (List.map (raisedM n)) ++ [(List.replicate (c + 2) (⟨(n : Int) + m, -1⟩ : Move)).set c (beginM t u)] := by
    unfold thenMs homeOf; rw [hc, ← hn, ← hm]; rfl
  have HKT := Lib.hid KT; have HKU := Lib.hid KU; have HN := Lib.hid hn; have HM := Lib.hid hm; have HX2 := Lib.hid hX; have HTM := Lib.hid hTM; have HPRE := Lib.hid hpre
  have HV1 := Lib.hid h1; have HV2 := Lib.hid h2; have HC := Lib.hid hc; have HCU := Lib.hid hcu
  obtain ⟨ha, hp, tc', ht, q1, q2, q4⟩ := rd_s1p rfl K2.out (by rw [← hn]; exact hn1)
  simp only [Value.slice.injEq] at ht
  obtain ⟨rfl, rfl, rfl⟩ := ht
  rw [← hn] at q1 q4 S
  rw [hc, hcu, hSt] at S
  rw [hcu] at e0
  rw [hc] at d0
  rw [hc, hcu] at t3
  have HRA : Hid (turnE.rd w B [.int .i64 (c : Int), .int .i64 t.start, .slice (some ⟨ha, hp, none⟩) n tc] t) := Lib.hid (by have := RA.out; rw [← hn, hc] at this; exact this)
  have HRB : Hid (turnE.rd w B [.int .i64 (c : Int), .int .i64 (St : Int), .slice ba bn bc] u) := Lib.hid (by have := RB.out; rw [hcu, hSt] at this; exact this)
  have HK2 : Hid (movessE.rd w B [.slice (some ⟨ha, hp, none⟩) n tc] t.moves) := Lib.hid (by have := K2.out; rw [← hn] at this; exact this)
  have Q4 := Lib.hid q4
  clear KT KU hX hTM hpre HX RA RB K2 h1 h2 hn hm q4 h3 hcu j0 j1 hSt hc
  have d2 := (S.blk 2 rfl).cell 2 rfl
  go_wp2_with fail
  clear e0 d0 d2 t3
  refine (size_movess _ t.moves B _ (movessE.rd_of (S.below.mono hB0) HK2.out)).mono ?_
  rintro e w3 ⟨rfl, b⟩
  rw [← HN.out]
  replace S := S.step b
  clear b
  have e0 := (S.blk 1 rfl).cell 0 rfl
  have e1 := (S.blk 1 rfl).cell 1 rfl
  have e2 := (S.blk 1 rfl).cell 2 rfl
  go_wp2_with fail
  clear e0 e1 e2
  refine (raised_any n ⟨by omega, by omega⟩ _ _ u B _ (Nat.le_trans hB0 S.below.size) (turnE.rd_of (S.below.mono hB0) HRB.out) HV2.out rfl).mono ?_
  rintro e w4 ⟨cs, fp, rfl, o, nd, lo, b⟩
  obtain ⟨v5, rfl, -, -, o5⟩ := rd_Turner (Enc.rd_ow _ o)
  obtain ⟨na, nn, nc, rfl⟩ := rd_slice o5
  clear o5
  replace S := (S.made o nd lo b).moves.alloc (cs := #[.int .i64 u.letters, .int .i64 (u.start + n), .slice na nn nc]) (ty := 32)
  clear o nd lo b
  go_wp2_with fail
  generalize hW : w4.alloc _ = w5 at S ⊢
  clear hW
  obtain ⟨gb, hgb⟩ : ∃ g, g = w4.heap.size := ⟨_, rfl⟩
  rw [← hgb] at S ⊢
  clear hgb
  have hnl : (u.moves.map (List.map (raisedM n))).length = m := by rw [List.length_map, ← HM.out]
  obtain ⟨ng, nc', hv, n1, n2, n3, n4⟩ := S.rows 1 rfl (by rw [hnl]; omega)
  simp only [Value.slice.injEq] at hv
  obtain ⟨rfl, rfl, rfl⟩ := hv
  rw [hnl] at n1 S ⊢
  have hms := mem_getD (l := u.moves) (k := St) (by rw [← HM.out]; exact hStm)
  have hlen5 := (HKU.out.row _ hms).1
  rw [HCU.out] at hlen5
  have hStm2 : St < u.moves.length := by rw [← HM.out]; exact hStm
  obtain ⟨rb, rc, r1, r2, -, -, r5⟩ := n4 St ((u.moves[St]?.getD default).map (raisedM n)) (by rw [List.getElem?_map, List.getElem?_eq_getElem hStm2]; rfl) (by rw [List.length_map]; omega)
  rw [List.length_map] at r1 r2
  have hlen6 : (u.moves[St]?.getD default).length = c + 2 := by omega
  rw [hlen6] at r1 r2
  obtain ⟨ys, s1, s2⟩ := r5 c (beginM t u) (by rw [List.getElem?_map, HPRE.out, List.getElem?_eq_getElem (by rw [hlen6]; omega)]; rfl)
  obtain ⟨rfl, sb1, sb2⟩ := rd_move2 s1
  obtain ⟨bg, hbg⟩ : ∃ y, y = beginM t u := ⟨_, rfl⟩
  have HTM : Hid (thenMs t u = t.moves.map (thenRow c ((n : Int) + m) bg) ++ u.moves.map (List.map (raisedM n)) ++ [(List.replicate (c + 2) (⟨(n : Int) + m, -1⟩ : Move)).set c bg]) := Lib.hid (by rw [hbg]; exact HTM.out)
  rw [← hbg] at s2 sb1 sb2
  have y0 : w5.cell? ⟨rb, c * 2, none⟩ = some (.int .i64 bg.to) := s2 0 _ rfl
  have y1 : w5.cell? ⟨rb, c * 2 + 1, none⟩ = some (.int .i64 bg.dir) := s2 1 _ rfl
  have gg1 : ng < w5.heap.size := World.block_lt_of_cell? w5 _ r1
  have gg2 : rb < w5.heap.size := World.block_lt_of_cell? w5 _ y0
  have i1 : (0 : Int) ≤ (St : Int) := by omega
  have i2 : (St : Int) < (m : Int) := by omega
  have i3 : (0 : Int) ≤ (c : Int) := by omega
  have i4 : (c : Int) < ((c + 2 : Nat) : Int) := by omega
  clear hbg s1 s2 r5 n4 n3 hms hlen5 hlen6 hStm2 HPRE
  refine wp_region_m 12 (by kernel_rfl) rfl ?_
  intro w6 b6
  replace S := S.step b6
  have z0 := (b6.cell gg1).trans r1
  have z1 := (b6.cell gg2).trans y0
  have z2 := (b6.cell gg2).trans y1
  have gz1 : ng < w6.heap.size := Nat.lt_of_lt_of_le gg1 b6.size
  have gz2 : rb < w6.heap.size := Nat.lt_of_lt_of_le gg2 b6.size
  clear y0 y1 r1 gg1 gg2 b6
  have f2 := (S.blk 0 rfl).cell 2 rfl
  have f3 := (S.blk 3 rfl).cell 1 rfl
  have f4 := (S.blk 4 rfl).cell 0 rfl
  have gz3 := (S.blk 0 rfl).lt
  have gz4 := (S.blk 3 rfl).lt
  have gz5 := (S.blk 4 rfl).lt
  have hov := cell_over w6
  refine wpM_read 0 rfl rfl (by kernel_rfl) (fun _ d _ _ _ h => by cases d <;> exact h) ?_
  go_big_quiet_step (fail)
  refine wpQuiet_nil ?_
  refine wpM_read 1 rfl rfl (by kernel_rfl) (fun _ d _ _ _ h => by cases d <;> exact h) ?_
  go_big_quiet_step (fail)
  refine wpQuiet_nil ?_
  refine wpM_read 2 rfl rfl (by kernel_rfl) (fun _ d _ _ _ h => by cases d <;> exact h) ?_
  go_big_quiet_step (fail)
  refine wpQuiet_nil ?_
  refine wpM_read 3 rfl rfl (by kernel_rfl) (fun _ d _ _ _ h => by cases d <;> exact h) ?_
  go_big_quiet_step (fail)
  refine wpQuiet_nil ?_
  refine wpM_read 4 rfl rfl (by kernel_rfl) (fun _ d _ _ _ h => by cases d <;> exact h) ?_
  go_big_quiet_step (fail)
  refine wpQuiet_nil ?_
  refine wpM_read 5 rfl rfl (by kernel_rfl) (fun _ d _ _ _ h => by cases d <;> exact h) ?_
  go_big_quiet_step (fail)
  refine wpQuiet_nil ?_
  refine wpM_read 6 rfl rfl (by kernel_rfl) (fun _ d _ _ _ h => by cases d <;> exact h) ?_
  go_big_quiet_step (fail)
  refine wpQuiet_nil ?_
  refine wpM_read 7 rfl rfl (by kernel_rfl) (fun _ d _ _ _ h => by cases d <;> exact h) ?_
  go_big_quiet_step (fail)
  refine wpQuiet_nil ?_
  refine wpM_read 8 rfl rfl (by kernel_rfl) (fun _ d _ _ _ h => by cases d <;> exact h) ?_
  go_big_quiet_step (fail)
  refine wpQuiet_nil ?_
  refine wpM_read 9 rfl rfl (by kernel_rfl) (fun _ d _ _ _ h => by cases d <;> exact h) ?_
  go_big_quiet_step (fail)
  refine wpQuiet_nil ?_
  refine wpM_ready [10] (by kernel_rfl) (by decide) (AllM.cons rfl (fun w7 b7 K hK => ?_) AllM.nil)
  go_simp
  have b7a : le w7 (w7.alloc (.cells #[.int .i64 0, .int .i64 0] 65)) := (Below.refl _ _).alloc (Nat.le_refl _) _
  refine hK _ _ (.inr b7a) ?_
  clear hK K b7a
  replace S := (S.step b7).alloc (cs := #[.int .i64 0, .int .i64 0]) (ty := 65)
  generalize hW2 : w7.alloc _ = w8 at S ⊢
  clear hW2 b7 hov gz1 gz2 gz3 gz4 gz5 f2 f3 f4 z0 z1 z2
  obtain ⟨gm, hgm⟩ : ∃ g, g = w7.heap.size := ⟨_, rfl⟩
  rw [← hgm] at S ⊢
  clear hgm
  refine wpM_ready [11] (by kernel_rfl) (by decide) (AllM.cons rfl (fun w9 b9 K hK => ?_) AllM.nil)
  replace S := S.step b9
  clear b9
  have D := S.blk 0 rfl
  have a0 := D.cell 0 rfl
  have a1 := D.cell 1 rfl
  have af := D.free
  clear D
  go_simp
  refine hK _ _ (.inl (closes_of (by kernel_rfl))) ?_
  clear hK K
  refine wpM_done (by kernel_rfl) (fun w11 b11 => ?_)
  generalize hW3 : (w9.setCell _ _).setCell _ _ = w10 at b11
  have S10 : Star w w10 [oB gm [.int .i64 bg.to, .int .i64 bg.dir] 65, oB gb [.int .i64 u.letters, .int .i64 (u.start + n), .slice (some ⟨ng, 0, none⟩) m nc] 32, oE movessE [.slice (some ⟨ng, 0, none⟩) m nc] (u.moves.map (List.map (raisedM n))), oB (w.heap.size + 1 + 1) [.int .i64 0, .int .i64 0, .slice none 0 0] 32, oB (w.heap.size + 1) [.int .i64 (c : Int), .int .i64 (St : Int), .slice ba bn bc] 32, oB w.heap.size [.int .i64 (c : Int), .int .i64 t.start, .slice (some ⟨ha, hp, none⟩) n tc] 32] := by rw [← hW3]; exact (S.set 0 _).set 1 _
  replace S := S10.step b11
  clear b11 hW3 a0 a1 af S10
  have u2' := (S.blk 4 rfl).cell 2 rfl
  go_wp2_with fail
  clear u2'
  refine (size_movess _ u.moves B _ (movessE.rd_of (S.below.mono hB0) J2.out)).mono ?_
  rintro e w12 ⟨rfl, b⟩
  rw [← HM.out]
  replace S := S.step b
  clear b
  have wh : IntKind.i64.wrap ((n : Int) + (m : Int)) = (n : Int) + (m : Int) := IntWalk.i64_in _ ⟨by omega, by omega⟩
  have t0 := fun o => ((S.blk 5 rfl).alloc o).cell 0 rfl
  have t1 := fun o => ((S.blk 5 rfl).alloc o).cell 1 rfl
  have t2 := fun o => ((S.blk 5 rfl).alloc o).cell 2 rfl
  replace S := S.alloc (cs := #[.int .i64 ((n : Int) + (m : Int))]) (ty := 2)
  go_wp2_with fail
  clear t0 t1 t2 wh
  generalize hW : w12.alloc _ = w13 at S ⊢
  clear hW
  obtain ⟨gh, hgh⟩ : ∃ g, g = w12.heap.size := ⟨_, rfl⟩
  rw [← hgh] at S ⊢
  clear hgh
  refine (chgHome_any ((n : Int) + (m : Int)) ⟨by omega, by omega⟩ gh _ _ t B _ (Nat.le_trans hB0 S.below.size) (turnE.rd_of (S.below.mono hB0) HRA.out) HV1.out ((S.blk 0 rfl).cell 0 rfl) rfl).mono ?_
  rintro e w14 ⟨cs, fp, rfl, o, nd, lo, b⟩
  obtain ⟨v5, rfl, -, -, o5⟩ := rd_Turner (Enc.rd_ow _ o)
  obtain ⟨oa, on, oc, rfl⟩ := rd_slice o5
  clear o5
  replace S := (S.made o nd lo b).moves
  clear o nd lo b
  have hol : (t.moves.map (List.map (homeM ((n : Int) + (m : Int))))).length = n := by rw [List.length_map, ← HN.out]
  obtain ⟨og, oc', hv, -, -, -, -⟩ := S.rows 0 rfl (by rw [hol]; omega)
  simp only [Value.slice.injEq] at hv
  obtain ⟨rfl, rfl, rfl⟩ := hv
  rw [hol] at S ⊢
  have t2 := fun o => ((S.blk 7 rfl).alloc o).cell 2 rfl
  replace S := (S.alloc (cs := #[.int .i64 t.letters, .int .i64 t.start, .slice (some ⟨og, 0, none⟩) n oc]) (ty := 32))
  go_wp2
  clear t2
  generalize hW : w14.alloc _ = w15 at S ⊢
  clear hW
  obtain ⟨g10, hg10⟩ : ∃ g, g = w14.heap.size := ⟨_, rfl⟩
  rw [← hg10] at S ⊢
  clear hg10
  obtain ⟨H, hH⟩ : ∃ h, h = (n : Int) + (m : Int) := ⟨_, rfl⟩
  have hHb : 0 ≤ H ∧ H ≤ 24 := by omega
  rw [← hH] at S HTM ⊢
  clear hH
  go_loopw [58] (fun q wr => ∃ (j : Nat), j ≤ n ∧ q = .int .i64 j ∧ Star w wr [oB g10 [.int .i64 t.letters, .int .i64 t.start, .slice (some ⟨og, 0, none⟩) n oc] 32, oE movessE [.slice (some ⟨og, 0, none⟩) n oc] ((t.moves.take j).map (thenRow c H bg) ++ (t.moves.drop j).map (List.map (homeM H))), oB gh [.int .i64 H] 2, oB gm [.int .i64 bg.to, .int .i64 bg.dir] 65, oB gb [.int .i64 u.letters, .int .i64 (u.start + n), .slice (some ⟨ng, 0, none⟩) m nc] 32, oE movessE [.slice (some ⟨ng, 0, none⟩) m nc] (u.moves.map (List.map (raisedM n))), oB (w.heap.size + 1 + 1) [.int .i64 0, .int .i64 0, .slice none 0 0] 32, oB (w.heap.size + 1) [.int .i64 (c : Int), .int .i64 (St : Int), .slice ba bn bc] 32, oB w.heap.size [.int .i64 (c : Int), .int .i64 t.start, .slice (some ⟨ha, hp, none⟩) n tc] 32]) (fun q _ => n - (intOf q).toNat)
  case atStart => exact ⟨0, by omega, rfl, S⟩
  case round =>
    clear S
    obtain ⟨j, hj, rfl, S⟩ := hrel
    by_cases hlt : j < n
    case pos =>
      obtain ⟨vk, hrc, hrd⟩ := Q4.out j hlt
      have hj2 : j < t.moves.length := by rw [← HN.out]; exact hlt
      have hrow : t.moves[j]?.getD default = t.moves[j] := by rw [List.getElem?_eq_getElem hj2]; rfl
      have hmem : t.moves[j] ∈ t.moves := List.getElem_mem hj2
      have hlen := (HKT.out.row _ hmem).1
      rw [HC.out] at hlen
      have hmg := mix_get (thenRow c H bg) (List.map (homeM H)) t.moves j hj2
      have hms := mix_set (thenRow c H bg) (List.map (homeM H)) t.moves j hj2
      have hsm := mix_same (thenRow c H bg) (List.map (homeM H)) t.moves j hj2
      rw [hrow] at hrd
      obtain ⟨row, hrow2⟩ : ∃ y, y = t.moves[j] := ⟨_, rfl⟩
      rw [← hrow2] at hrd hlen hmg hms hsm
      have hl2 : row.length = c + 2 := by omega
      obtain ⟨ma, mc, rfl, m1, m2, -, m4⟩ := rd_movesE hrd
      rw [hl2] at m1 m4 hrc
      obtain ⟨sb, so, rfl, -, ⟨hm0, hm1⟩, -⟩ := m4 c (by omega)
      obtain ⟨tv, htv⟩ : ∃ y, y = (row[c]?.getD default).to := ⟨_, rfl⟩
      rw [← htv] at hm0
      have BW := S.below
      have cr := (BW.cell (World.block_lt_of_cell? w _ hrc)).trans hrc
      have q0 := (BW.cell (World.block_lt_of_cell? w _ hm0)).trans hm0
      have d0 := (S.blk 8 rfl).cell 0 rfl
      have i1 : (0 : Int) ≤ (j : Int) := by omega
      have i2 : (j : Int) < (n : Int) := by omega
      have i3 : (0 : Int) ≤ (c : Int) := by omega
      have i4 : (c : Int) < ((c + 2 : Nat) : Int) := by omega
      have hrun := mix_len (thenRow c H bg) (List.map (homeM H)) t.moves j
      obtain ⟨og', oc', hv, -, -, ofz, n4⟩ := S.rows 1 rfl (by rw [hrun]; omega)
      simp only [Value.slice.injEq, Option.some.injEq, Addr.mk.injEq, and_true] at hv
      obtain ⟨rfl, -, rfl⟩ := hv
      obtain ⟨rb, rc, r1, r2, -, rf, r5⟩ := n4 j _ hmg (by rw [List.length_map]; omega)
      rw [List.length_map, hl2] at r1 r2
      obtain ⟨ys, s1, s2⟩ := r5 c (homeM H (row[c]?.getD default)) (by rw [List.getElem?_map, List.getElem?_eq_getElem (by omega)]; rfl)
      obtain ⟨rfl, -, -⟩ := rd_move2 s1
      obtain ⟨o0, ho0⟩ : ∃ v, v = Value.int .i64 (homeM H (row[c]?.getD default)).to := ⟨_, rfl⟩
      obtain ⟨o1, ho1⟩ : ∃ v, v = Value.int .i64 (homeM H (row[c]?.getD default)).dir := ⟨_, rfl⟩
      rw [← ho0, ← ho1] at s2
      have y0 : wr.cell? ⟨rb, c * 2, none⟩ = some o0 := s2 0 _ rfl
      have y1 : wr.cell? ⟨rb, c * 2 + 1, none⟩ = some o1 := s2 1 _ rfl
      have HMG := Lib.hid hmg; have HMS := Lib.hid hms; have HSM := Lib.hid hsm; have HTV := Lib.hid htv
      clear hrd hrow hrow2 hmem hlen hmg hms hsm htv m4 hrc hm0 hm1 BW n4 s1 s2 r5 ofz ho0 ho1 hrun hj2
      by_cases hto : tv = -1
      case neg =>
        have tB : (tv == -1) = false := by simpa using hto
        have hsame := HSM.out (by unfold thenRow; rw [if_neg (by rw [← HTV.out]; exact hto)])
        have HSA := Lib.hid hsame
        clear hsame r1 y0 y1 rf
        go_wp2
        go_roundw
        case rel => exact ⟨j + 1, by omega, by go_num, by rw [HSA.out]; exact S⟩
        case measure => simp [intOf]; omega
      have tB : (tv == -1) = true := by simpa using hto
      have hth : thenRow c H bg row = (row.map (homeM H)).set c bg := by unfold thenRow; rw [if_pos (by rw [← HTV.out]; exact hto)]
      have HTH := Lib.hid hth
      clear hth
      go_wp2
      have gg1 : og < wr.heap.size := World.block_lt_of_cell? wr _ r1
      have gg2 : rb < wr.heap.size := World.block_lt_of_cell? wr _ y0
      refine wp_region_m 10 (by kernel_rfl) rfl ?_
      intro w6 b6
      replace S := S.step b6
      have z0 := (b6.cell gg1).trans r1
      have z1 := (b6.cell gg2).trans y0
      have z2 := (b6.cell gg2).trans y1
      have gz1 : og < w6.heap.size := Nat.lt_of_lt_of_le gg1 b6.size
      have gz2 : rb < w6.heap.size := Nat.lt_of_lt_of_le gg2 b6.size
      have zf : ∀ k, w6.frozen? ⟨rb, k, none⟩ = false := fun k => by rw [b6.frozen gg2]; exact rf k
      clear y0 y1 r1 gg1 gg2 b6 rf cr q0 d0
      have f2 := (S.blk 0 rfl).cell 2 rfl
      have f3 := (S.blk 8 rfl).cell 0 rfl
      have f4 := (S.blk 3 rfl).cell 0 rfl
      have f5 := (S.blk 3 rfl).cell 1 rfl
      have gz3 := (S.blk 0 rfl).lt
      have gz4 := (S.blk 8 rfl).lt
      have gz5 := (S.blk 3 rfl).lt
      have hov := cell_over w6
      refine wpM_read 0 rfl rfl (by kernel_rfl) (fun _ d _ _ _ h => by cases d <;> exact h) ?_
      go_big_quiet_step (fail)
      refine wpQuiet_nil ?_
      refine wpM_read 1 rfl rfl (by kernel_rfl) (fun _ d _ _ _ h => by cases d <;> exact h) ?_
      go_big_quiet_step (fail)
      refine wpQuiet_nil ?_
      refine wpM_read 2 rfl rfl (by kernel_rfl) (fun _ d _ _ _ h => by cases d <;> exact h) ?_
      go_big_quiet_step (fail)
      refine wpQuiet_nil ?_
      refine wpM_read 3 rfl rfl (by kernel_rfl) (fun _ d _ _ _ h => by cases d <;> exact h) ?_
      go_big_quiet_step (fail)
      refine wpQuiet_nil ?_
      refine wpM_read 4 rfl rfl (by kernel_rfl) (fun _ d _ _ _ h => by cases d <;> exact h) ?_
      go_big_quiet_step (fail)
      refine wpQuiet_nil ?_
      refine wpM_read 5 rfl rfl (by kernel_rfl) (fun _ d _ _ _ h => by cases d <;> exact h) ?_
      go_big_quiet_step (fail)
      refine wpQuiet_nil ?_
      refine wpM_read 6 rfl rfl (by kernel_rfl) (fun _ d _ _ _ h => by cases d <;> exact h) ?_
      go_big_quiet_step (fail)
      refine wpQuiet_nil ?_
      refine wpM_read 7 rfl rfl (by kernel_rfl) (fun _ d _ _ _ h => by cases d <;> exact h) ?_
      go_big_quiet_step (fail)
      refine wpQuiet_nil ?_
      refine wpM_read 8 rfl rfl (by kernel_rfl) (fun _ d _ _ _ h => by cases d <;> exact h) ?_
      go_big_quiet_step (fail)
      refine wpQuiet_nil ?_
      refine wpM_ready [9] (by kernel_rfl) (by decide) (AllM.cons rfl (fun w9 b9 K hK => ?_) AllM.nil)
      replace S := S.step b9
      have y0 := (b9.cell gz2).trans z1
      have y1 := (b9.cell gz2).trans z2
      have r1 := (b9.cell gz1).trans z0
      have rf : ∀ k, w9.frozen? ⟨rb, k, none⟩ = false := fun k => by rw [b9.frozen gz2]; exact zf k
      clear b9 gz1 gz2 gz3 gz4 gz5 hov f2 f3 f4 f5 z0 z1 z2 zf
      go_simp
      refine hK _ _ (.inl (closes_of (by kernel_rfl))) ?_
      clear hK K
      refine wpM_done (by kernel_rfl) (fun w11 b11 => ?_)
      generalize hW3 : (w9.setCell _ _).setCell _ _ = w10 at b11
      have SM := (S.sel [1, 0, 2, 3, 4, 5, 6, 7, 8]).setMove j _ HMG.out r1 c bg.to bg.dir sb1 sb2
      rw [hW3, ← HTH.out, HMS.out] at SM
      replace S := (SM.step b11).sel [1, 0, 2, 3, 4, 5, 6, 7, 8]
      clear b11 hW3 SM y0 y1 rf r1
      go_wp2
      go_roundw
      case rel => exact ⟨j + 1, by omega, by go_num, S⟩
      case measure => simp [intOf]; omega
    obtain rfl : n = j := by omega
    have hfull : (t.moves.take n).map (thenRow c H bg) ++ (t.moves.drop n).map (List.map (homeM H)) = t.moves.map (thenRow c H bg) := by
      rw [HN.out, List.take_length, List.drop_length]
      exact List.append_nil _
    rw [hfull] at S
    clear hfull
    have hlj : (t.moves.map (thenRow c H bg)).length + (u.moves.map (List.map (raisedM n))).length ≤ 1000000000000 := by
      rw [List.length_map, List.length_map, ← HN.out, ← HM.out]; omega
    have f2 := (S.blk 0 rfl).cell 2 rfl
    have f3 := (S.blk 4 rfl).cell 2 rfl
    have SJ := S.sel [1, 5, 0, 2, 3, 6, 8]
    clear S
    go_upto_region 17 with (at_builtin; refine stJ_MoveSS SJ rfl rfl rfl rfl hlj ?_; intro ja jn jc w9 S9; have x9 := (S9.blk 1 rfl).cell 2 rfl; have cf := (S9.blk 1 rfl).free)
    replace S9 := (S9.sel [1, 0, 2, 3, 4, 5]).set 2 (.slice ja jn jc)
    generalize hW : w9.setCell _ _ = w10 at S9 ⊢
    clear hW x9 cf SJ f2 f3 hlj
    have S := S9
    clear S9
    have wL : IntKind.i64.wrap ((c : Int) + 2) = (c : Int) + 2 := IntWalk.i64_in _ ⟨by omega, by omega⟩
    have hcast : ((c : Int) + 2) = ((c + 2 : Nat) : Int) := by omega
    have HCAST := Lib.hid hcast; clear hcast
    have SA := S.alloc (cs := #[.int .i64 H, .int .i64 (-1)]) (ty := 65)
    have hr0 := (SA.blk 0 rfl).cell 0 rfl
    have hr1 := (SA.blk 0 rfl).cell 1 rfl
    have HR := Lib.hid (repeat_moves ⟨H, -1⟩ w10.heap.size 1 (c + 2) (by omega) _ hr0 hr1)
    clear hr0 hr1
    have h0 := (S.blk 2 rfl).cell 0 rfl
    have d0 := fun o => ((S.blk 5 rfl).alloc o).cell 0 rfl
    go_wp2_with fail
    rw [HCAST.out]
    refine HR.out.mono ?_
    rintro e w11 ⟨q1, rfl, hq, lo, b⟩
    replace S := (SA.sel [1, 2, 3, 4, 5, 6]).blocked hq lo b
    clear SA HR hq lo b h0 d0 wL
    have hlen : (List.replicate (c + 2) (⟨H, -1⟩ : Move)).length = c + 2 := by simp
    obtain ⟨u0, c0⟩ : ∃ u, w11.cell? ⟨q1, c * 2, none⟩ = some u := ⟨_, (move_cells (S.blk 0 rfl) c (by rw [hlen]; omega)).1⟩
    obtain ⟨u1, c1⟩ : ∃ u, w11.cell? ⟨q1, c * 2 + 1, none⟩ = some u := ⟨_, (move_cells (S.blk 0 rfl) c (by rw [hlen]; omega)).2⟩
    have cf := (S.blk 0 rfl).free
    have d0 := (S.blk 6 rfl).cell 0 rfl
    have f4 := (S.blk 4 rfl).cell 0 rfl
    have f5 := (S.blk 4 rfl).cell 1 rfl
    have i3 : (0 : Int) ≤ (c : Int) := by omega
    have i4 : (c : Int) < ((c + 2 : Nat) : Int) := by omega
    go_upto_region 19 with fail
    generalize hW : (w11.setCell _ _).setCell _ _ = w12
    have SB := set_move S c (by rw [hlen]; omega) bg
    rw [hW] at SB
    have S1 := SB.lits (E := moveE) ((List.replicate (c + 2) (⟨H, -1⟩ : Move)).set c bg) cMove (c + 2) (by rw [List.length_set]; exact hlen) rfl (fun y hy => by
      rcases List.mem_or_eq_of_mem_set hy with h | h
      · rw [(List.mem_replicate.1 h).2]; exact ow_move (bd_i64 hHb) bdm1 _
      · rw [h]; exact ow_move sb1 sb2 _) (by simp [maxLen]; omega)
    clear SB hW c0 c1 cf S d0 f4 f5 hlen
    have hlm : (t.moves.map (thenRow c H bg) ++ u.moves.map (List.map (raisedM n))).length ≤ 1000000000000 := by
      rw [List.length_append, List.length_map, List.length_map, ← HN.out, ← HM.out]; omega
    have f2 := (S1.blk 1 rfl).cell 2 rfl
    have SC := (S1.alloc (cs := #[.slice (some ⟨q1, 0, none⟩) (c + 2) (c + 2)]) (ty := 66)).sel [3, 1, 2, 6]
    go_upto_region 20 with (at_builtin; refine st1_MoveSS SC rfl rfl rfl rfl cell_a1 (one_mem rfl) hlm ?_; intro ja jn jc w13 S9; have x9 := (S9.blk 1 rfl).cell 2 rfl; have cf := (S9.blk 1 rfl).free)
    replace S9 := (S9.sel [1, 0, 2]).set 2 (.slice ja jn jc)
    generalize hW : w13.setCell _ _ = w14 at S9 ⊢
    clear hW x9 cf SC f2 hlm S1
    have S := S9
    clear S9
    have x0 := (S.blk 0 rfl).cell 0 rfl
    have x1 := (S.blk 0 rfl).cell 1 rfl
    have x2 := (S.blk 0 rfl).cell 2 rfl
    rw [← HTM.out] at S
    replace S := ((S.int k1).int k0).sel [1, 3, 0, 4]
    replace S : Star w w14 [oE intE [.int .i64 t.letters] t.letters, oE (pairE intE movessE) [.int .i64 t.start, .slice ja jn jc] (t.start, thenMs t u), oB (w.heap.size + 1 + 1) [.int .i64 0, .int .i64 0, .slice none 0 0] 32] := S.pair.sel [1, 0, 2]
    replace S : Star w w14 [oE turnE [.int .i64 t.letters, .int .i64 t.start, .slice ja jn jc] (thenT t u), oB (w.heap.size + 1 + 1) [.int .i64 0, .int .i64 0, .slice none 0 0] 32] := S.pair.via (F := fun r : Turner => (r.letters, r.start, r.moves)) (thenT t u) rfl
    go_wp2_with fail
    clear x0 x1 x2
    cases hv : validTurn (thenT t u)
    case false =>
      refine (turnerOr_no [.int .i64 t.letters, .int .i64 t.start, .slice ja jn jc] (thenT t u) _ w14 (Nat.le_refl _) (S.rd 0 rfl) hv).mono ?_
      rintro e w15 ⟨rfl, b⟩
      replace S := (S.step b).sel [1]
      clear b
      have hto : x = (default, 3) := by rw [HX2.out, hv]; rfl
      have HT := Lib.hid hto
      clear hto
      have R0 := S.blk 0 rfl
      have c0 := R0.cell 0 rfl
      have c1 := R0.cell 1 rfl
      have c2 := R0.cell 2 rfl
      have f0 := R0.free
      go_wp2
      generalize hW : ((w15.setCell _ _).setCell _ _).setCell _ _ = w9
      replace S := S.set3 rfl hW
      have A3 := S.blk 0 rfl
      have q0 := A3.cell 0 rfl
      have q1 := A3.cell 1 rfl
      have q2 := A3.cell 2 rfl
      obtain rfl : x = (default, 3) := by exact HT.out
      exact bodyPost_ret (v := .tuple #[.agg #[.int .i64 0, .int .i64 0, .slice none 0 0], .int .i64 3]) (by simp [results, Tryd.results29, go_sem, q0, q1, q2]) rfl (S.flat (ow_Turner_zero _)).done
    refine (turnerOr_yes [.int .i64 t.letters, .int .i64 t.start, .slice ja jn jc] (thenT t u) _ w14 (Nat.le_refl _) (S.rd 0 rfl) hv).mono ?_
    rintro e w15 ⟨rfl, b⟩
    replace S := S.step b
    clear b
    have hto : x = (thenT t u, 0) := by rw [HX2.out, hv]; rfl
    have HT := Lib.hid hto
    clear hto
    have R0 := S.blk 1 rfl
    have c0 := R0.cell 0 rfl
    have c1 := R0.cell 1 rfl
    have c2 := R0.cell 2 rfl
    have f0 := R0.free
    go_wp2
    generalize hW : ((w15.setCell _ _).setCell _ _).setCell _ _ = w16
    replace S := (S.sel [1, 0]).set3 rfl hW
    have A3 := S.blk 0 rfl
    have q0 := A3.cell 0 rfl
    have q1 := A3.cell 1 rfl
    have q2 := A3.cell 2 rfl
    obtain rfl := HT.out
    exact bodyPost_ret (v := .tuple #[.agg #[.int .i64 t.letters, .int .i64 t.start, .slice ja jn jc], .int .i64 0]) (by simp [results, Tryd.results29, go_sem, q0, q1, q2]) rfl (S.sel [1]).done

end Go.Proofs.YtnkhgfdlehhjmaaDoor
