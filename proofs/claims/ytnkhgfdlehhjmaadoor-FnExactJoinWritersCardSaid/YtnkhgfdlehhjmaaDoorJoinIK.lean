/-
  JoinWriters of the program.
-/
import Derived.Test.YtnkhgfdlehhjmaaDoorPackA
import Derived.Test.YtnkhgfdlehhjmaaDoorThenIK
import Derived.Test.YtnkhgfdlehhjmaaDoorToldK
import Derived.Test.YtnkhgfdlehhjmaaDoorJoinLK
import Derived.Test.YtnkhgfdlehhjmaaDoorCalmPK
import Derived.Test.YtnkhgfdlehhjmaaDoorStepSK
import Derived.Test.YtnkhgfdlehhjmaaDoorBackK
namespace Go.Proofs.YtnkhgfdlehhjmaaDoor
open Go.RowKit

set_option maxHeartbeats 8000000 in
set_option maxRecDepth 100000 in
theorem joinWriters_is (x : Writer × Int) (cs : List Value) (u : Writer) (ds : List Value) (v : Writer) (B : Nat) (w : World) (hB0 : B ≤ w.heap.size) (h : writE.rd w B cs u) (h' : writE.rd w B ds v) (hx : joinWriters u v = x) :
    Calls Tryd.prog 11 #[.agg cs.toArray, .agg ds.toArray] w (MakesC writE x w) := by
  have HX := Lib.hid hx
  have RA := Lib.hid h
  have RB := Lib.hid h'
  obtain ⟨u2, u3, rfl, k0, k1, k2, k3⟩ := rd_WriterF h
  obtain ⟨v2, v3, rfl, j0, j1, j2, j3⟩ := rd_WriterF h'
  have K2 := Lib.hid k2; have K3 := Lib.hid k3; have J2 := Lib.hid j2; have J3 := Lib.hid j3
  obtain ⟨ta, tn, tc, rfl⟩ := rd_slice k2
  obtain ⟨oa, on, oc, rfl⟩ := rd_slice k3
  obtain ⟨ba, bn, bc, rfl⟩ := rd_slice j2
  obtain ⟨pa, pn, pc, rfl⟩ := rd_slice j3
  clear hx h h' k2 k3 j2 j3
  have S := (((Star.nil w).alloc (cs := #[.int .i64 u.turner.letters, .int .i64 u.turner.start, .slice ta tn tc, .slice oa on oc]) (ty := 34)).alloc (cs := #[.int .i64 v.turner.letters, .int .i64 v.turner.start, .slice ba bn bc, .slice pa pn pc]) (ty := 34)).alloc (cs := #[.int .i64 0, .int .i64 0, .slice none 0 0, .slice none 0 0]) (ty := 34)
  rw [World.size_alloc, World.size_alloc] at S
  go_enter Tryd.func11, Tryd.ntmps11
  go_wp2_with fail
  generalize hW : ((w.alloc _).alloc _).alloc _ = w0 at S ⊢
  clear hW
  replace S : Star w w0 [oB (w.heap.size + 1 + 1) [.int .i64 0, .int .i64 0, .slice none 0 0, .slice none 0 0] 34, oB (w.heap.size + 1) [.int .i64 v.turner.letters, .int .i64 v.turner.start, .slice ba bn bc, .slice pa pn pc] 34, oB w.heap.size [.int .i64 u.turner.letters, .int .i64 u.turner.start, .slice ta tn tc, .slice oa on oc] 34] := S
  refine (validWriter_any _ u B _ (Nat.le_trans hB0 S.below.size) (writE.rd_of (S.below.mono hB0) RA.out)).mono ?_
  rintro e w1 ⟨rfl, b⟩
  replace S := S.step b
  clear b
  cases h1 : writerOk u
  case false =>
    clear K2 K3 J2 J3
    have R0 := S.blk 0 rfl
    have c0 := R0.cell 0 rfl
    have c1 := R0.cell 1 rfl
    have c2 := R0.cell 2 rfl
    have c3 := R0.cell 3 rfl
    have f0 := R0.free
    go_wp2
    generalize hW : (((w1.setCell _ _).setCell _ _).setCell _ _).setCell _ _ = w9
    replace S := S.set4 rfl hW
    have A3 := S.blk 0 rfl
    have q0 := A3.cell 0 rfl
    have q1 := A3.cell 1 rfl
    have q2 := A3.cell 2 rfl
    have q3 := A3.cell 3 rfl
    obtain rfl : x = (default, 1) := by rw [← HX.out]; unfold joinWriters; rw [h1]; rfl
    exact bodyPost_ret (v := .tuple #[.agg #[.int .i64 0, .int .i64 0, .slice none 0 0, .slice none 0 0], .int .i64 1]) (by simp [results, Tryd.results11, go_sem, q0, q1, q2, q3]) rfl (S.flat (ow_Writer_zero _)).done
  have e0 := (S.blk 1 rfl).cell 0 rfl
  have e1 := (S.blk 1 rfl).cell 1 rfl
  have e2 := (S.blk 1 rfl).cell 2 rfl
  have e3 := (S.blk 1 rfl).cell 3 rfl
  go_wp2_with fail
  clear e0 e1 e2 e3
  refine (validWriter_any _ v B _ (Nat.le_trans hB0 S.below.size) (writE.rd_of (S.below.mono hB0) RB.out)).mono ?_
  rintro e w2 ⟨rfl, b⟩
  replace S := S.step b
  clear b
  cases h2 : writerOk v
  case false =>
    clear K2 K3 J2 J3
    have R0 := S.blk 0 rfl
    have c0 := R0.cell 0 rfl
    have c1 := R0.cell 1 rfl
    have c2 := R0.cell 2 rfl
    have c3 := R0.cell 3 rfl
    have f0 := R0.free
    go_wp2
    generalize hW : (((w2.setCell _ _).setCell _ _).setCell _ _).setCell _ _ = w9
    replace S := S.set4 rfl hW
    have A3 := S.blk 0 rfl
    have q0 := A3.cell 0 rfl
    have q1 := A3.cell 1 rfl
    have q2 := A3.cell 2 rfl
    have q3 := A3.cell 3 rfl
    obtain rfl : x = (default, 1) := by rw [← HX.out]; unfold joinWriters; rw [h1, h2]; rfl
    exact bodyPost_ret (v := .tuple #[.agg #[.int .i64 0, .int .i64 0, .slice none 0 0, .slice none 0 0], .int .i64 1]) (by simp [results, Tryd.results11, go_sem, q0, q1, q2, q3]) rfl (S.flat (ow_Writer_zero _)).done
  have KU := writOk_of h1
  have KV := writOk_of h2
  have hX := joinWriters_eq h1 h2
  rw [HX.out] at hX
  obtain ⟨n, hn⟩ : ∃ n, n = u.turner.moves.length := ⟨_, rfl⟩
  obtain ⟨m, hm⟩ : ∃ m, m = v.out.length := ⟨_, rfl⟩
  have hno : n = u.out.length := by rw [hn, KU.n]
  have hn12 : n ≤ 12 := by rw [hn]; exact KU.t.n12
  have hm12 : m ≤ 12 := by rw [hm, KV.n]; exact KV.t.n12
  have hn1 : 1 ≤ n := by rw [hn]; exact KU.t.n1
  have hm1 : 1 ≤ m := by rw [hm, KV.n]; exact KV.t.n1
  obtain ⟨c, hc⟩ : ∃ c : Nat, u.turner.letters = c := ⟨u.turner.letters.toNat, by have := KU.t.l1; omega⟩
  have hc1 : 1 ≤ c := by have := KU.t.l1; omega
  have hc3 : c ≤ 3 := by have := KU.t.l3; omega
  obtain ⟨St, hSt⟩ : ∃ k : Nat, v.turner.start = k := ⟨v.turner.start.toNat, by have := KV.t.s0; omega⟩
  have hStm : St < m := by have := KV.t.s1; rw [hm, KV.n]; omega
  obtain ⟨ha, hp, tc', ht, q1, q2, q4⟩ := rd_s1p rfl K2.out (by rw [← hn]; exact hn1)
  simp only [Value.slice.injEq] at ht
  obtain ⟨rfl, rfl, rfl⟩ := ht
  obtain ⟨ga, gp, oc', ht, p1, p2, -⟩ := rd_s1p rfl K3.out (by rw [← hno]; exact hn1)
  simp only [Value.slice.injEq] at ht
  obtain ⟨rfl, rfl, rfl⟩ := ht
  obtain ⟨fa, fp, pc', ht, o1, o2, o4⟩ := rd_s1p rfl J3.out (by rw [← hm]; exact hm1)
  simp only [Value.slice.injEq] at ht
  obtain ⟨rfl, rfl, rfl⟩ := ht
  have K2' := Lib.hid K2.out; have K3' := Lib.hid K3.out; have J3' := Lib.hid J3.out
  rw [← hn] at q1 q4 S
  rw [← hno] at p1 S
  rw [← hm] at o1 o4 S
  have HKU := Lib.hid KU; have HKV := Lib.hid KV; have HN := Lib.hid hn; have HNO := Lib.hid hno; have HM := Lib.hid hm; have HC := Lib.hid hc; have HST := Lib.hid hSt; have HX2 := Lib.hid hX
  have Q4 := Lib.hid q4; have O4 := Lib.hid o4
  clear KU KV hn hno hm hc hSt hX q4 o4 HX K2 K3 J3 RA RB
  have e0 := (S.blk 1 rfl).cell 0 rfl
  have e1 := (S.blk 1 rfl).cell 1 rfl
  have e2 := (S.blk 1 rfl).cell 2 rfl
  have d0 := (S.blk 2 rfl).cell 0 rfl
  have d1 := (S.blk 2 rfl).cell 1 rfl
  have d2 := (S.blk 2 rfl).cell 2 rfl
  go_wp2_with fail
  clear e0 e1 e2 d0 d1 d2
  have hB2 := Nat.le_trans hB0 S.below.size
  refine (thenTurner_is _ _ u.turner _ v.turner B _ hB2 (turn_rd k0 k1 (movessE.rd_of (S.below.mono hB0) (by have := K2'.out; rw [← HN.out] at this; exact this))) (turn_rd j0 j1 (movessE.rd_of (S.below.mono hB0) J2.out)) rfl).mono ?_
  rintro e w3 ⟨cs, fpt, rfl, o, nd, lo, b⟩
  obtain ⟨v5, rfl, i0, i1, o5⟩ := rd_Turner (Enc.rd_ow _ o)
  obtain ⟨ca, cn, cc, rfl⟩ := rd_slice o5
  obtain ⟨t, ht⟩ : ∃ t, t = (thenTurner u.turner v.turner).1 := ⟨_, rfl⟩
  obtain ⟨cd, hcd⟩ : ∃ c, c = (thenTurner u.turner v.turner).2 := ⟨_, rfl⟩
  have hX3 : x = (if cd = 0 then (if writerOk (joinW u v) then (joinW u v, 0) else (default, 3)) else (default, cd)) := by rw [hcd]; exact HX2.out
  have htt : cd = 0 → thenT u.turner v.turner = t := fun h => by rw [ht]; exact (thenTurner_fst (by rw [← hcd]; exact h)).symm
  have hll : cd = 0 → u.turner.letters = v.turner.letters := fun h => thenTurner_letters (by rw [← hcd]; exact h)
  rw [← ht] at o i0 i1 ⊢
  rw [← hcd]
  clear ht hcd o5 hB2
  replace S := (S.made o nd lo b).moves.alloc (cs := #[.int .i64 t.letters, .int .i64 t.start, .slice ca cn cc]) (ty := 32)
  clear o nd lo b
  by_cases hc0 : cd = 0
  case neg =>
    have tA : (cd != 0) = true := by simpa using hc0
    have hx : x = (default, cd) := by rw [if_neg hc0] at hX3; exact hX3
    have HX := Lib.hid hx
    clear hx hX3 htt hll
    have R0 := S.blk 2 rfl
    have c0 := R0.cell 0 rfl
    have c1 := R0.cell 1 rfl
    have c2 := R0.cell 2 rfl
    have c3 := R0.cell 3 rfl
    have f0 := R0.free
    go_wp2
    generalize hW : ((((w3.alloc _).setCell _ _).setCell _ _).setCell _ _).setCell _ _ = w9
    replace S := (S.sel [2, 0, 1, 3, 4]).set4 rfl hW
    have A3 := S.blk 0 rfl
    have q0 := A3.cell 0 rfl
    have q1 := A3.cell 1 rfl
    have q2 := A3.cell 2 rfl
    have q3 := A3.cell 3 rfl
    obtain rfl := HX.out
    exact bodyPost_ret (v := .tuple #[.agg #[.int .i64 0, .int .i64 0, .slice none 0 0, .slice none 0 0], .int .i64 cd]) (by simp [results, Tryd.results11, go_sem, q0, q1, q2, q3]) rfl (S.flat (ow_Writer_zero _)).done
  have hX4 : x = (if writerOk (joinW u v) then (joinW u v, 0) else (default, 3)) := by rw [if_pos hc0] at hX3; exact hX3
  have hl2 := hll hc0
  have htt2 := htt hc0
  clear hX3 htt hll
  subst hc0
  obtain ⟨vk, hrc, hrd⟩ := O4.out St hStm
  have hrl : (v.out[St]?.getD default).length = c + 2 := by
    have h5 := (HKV.out.row St (by rw [← HM.out]; exact hStm)).1
    have h6 := HKV.out.n
    have h7 := HM.out
    have h8 := (HKV.out.t.row _ (mem_getD (l := v.turner.moves) (k := St) (by omega))).1
    have h9 := HC.out
    omega
  have hbo : beginO v = (v.out[St]?.getD default)[c]?.getD default := by
    unfold beginO
    rw [HST.out, ← hl2, HC.out]
    rfl
  have hbs : ∀ y, y ∈ v.out[St]?.getD default → y.size ≤ 3 := fun y hy => outOk_size ((HKV.out.row St (by rw [← HM.out]; exact hStm)).2 y hy)
  have hbz := hbs _ (mem_getD (l := v.out[St]?.getD default) (k := c) (by rw [hrl]; omega))
  obtain ⟨ra, rp, rcap, rfl, r1, r2, r4⟩ := rd_s1p rfl hrd (by rw [hrl]; omega)
  rw [hrl] at r1 r4 hrc
  obtain ⟨vs, hs, hsr⟩ := r4 c (by omega)
  obtain ⟨hv, -⟩ := hsr
  rw [← hbo] at hv hbz
  obtain ⟨bo, hbo2⟩ : ∃ y, y = beginO v := ⟨_, rfl⟩
  rw [← hbo2] at hv hbz
  obtain rfl : vs = .string bo := by simpa using hv
  have hJO : joinW u v = ⟨t, (List.range u.out.length).map (fun s => joinRow c bo (u.turner.moves[s]?.getD default) (u.out[s]?.getD default)) ++ v.out ++ [(List.replicate (c + 2) (⟨#[]⟩ : ByteArray)).set c bo]⟩ := by
    unfold joinW joinOut
    rw [htt2, HC.out, ← hbo2]
    rfl
  have HJO := Lib.hid hJO; have HX4 := Lib.hid hX4; have HRC := Lib.hid hrc; have HS := Lib.hid hs; have HLL := Lib.hid hl2
  clear hJO hX4 hrd hbo hbo2 hbs r4 hv hrl htt2
  rw [HC.out, ← HLL.out, HC.out, HST.out] at S
  have i2 : (0 : Int) ≤ (St : Int) := by omega
  have i3 : (St : Int) < (m : Int) := by omega
  have i4 : (0 : Int) ≤ (c : Int) := by omega
  have i5 : (c : Int) < ((c + 2 : Nat) : Int) := by omega
  clear hrc hs hl2
  have e1 := (S.blk 3 rfl).cell 1 rfl
  have e3 := (S.blk 3 rfl).cell 3 rfl
  have d0 := (S.blk 4 rfl).cell 0 rfl
  have BW := S.below
  have z0 := (BW.cell (World.block_lt_of_cell? w _ HRC.out)).trans HRC.out
  have z1 := (BW.cell (World.block_lt_of_cell? w _ HS.out)).trans HS.out
  go_upto_region 8 with fail
  generalize hW : w3.alloc _ = w4 at S ⊢
  obtain ⟨g6, hg6⟩ : ∃ g, g = w3.heap.size := ⟨_, rfl⟩
  rw [← hg6] at S ⊢
  clear hW hg6 e1 e3 d0 BW z0 z1
  go_cut [10] (fun s10 wx => ∃ (g : Nat) (la : Option Addr) (ln lc : Nat), s10 = .pointer (some ⟨g, 0, none⟩) ∧ Star w wx [oB g [.int .i64 t.letters, .int .i64 t.start, .slice ca cn cc, .slice la ln lc] 34, oE strssE [.slice la ln lc] (u.out ++ v.out), oE movessE [.slice ca cn cc] t.moves, oB (w.heap.size + 1 + 1) [.int .i64 0, .int .i64 0, .slice none 0 0, .slice none 0 0] 34, oB w.heap.size [.int .i64 (c : Int), .int .i64 u.turner.start, .slice (some ⟨ha, hp, none⟩) n tc, .slice (some ⟨ga, gp, none⟩) n oc] 34])
  case first =>
    refine wp_region_p [] 11 (by kernel_rfl) rfl ?_
    intro w5 b5
    replace S := S.step b5
    clear b5
    have x0 := (S.blk 0 rfl).cell 0 rfl
    have x1 := (S.blk 0 rfl).cell 1 rfl
    have x2 := (S.blk 0 rfl).cell 2 rfl
    have e3 := (S.blk 3 rfl).cell 3 rfl
    have d3 := (S.blk 4 rfl).cell 3 rfl
    have gl1 := (S.blk 0 rfl).lt
    have gl2 := (S.blk 3 rfl).lt
    have gl3 := (S.blk 4 rfl).lt
    have hov := cell_over w5
    refine wpP_read 0 rfl rfl (by kernel_rfl) rfl (fun _ d _ _ _ h => by cases d <;> exact h) ?_
    go_big_quiet_step (fail)
    refine wpQuiet_nil ?_
    refine wpP_read 1 rfl rfl (by kernel_rfl) rfl (fun _ d _ _ _ h => by cases d <;> exact h) ?_
    go_big_quiet_step (fail)
    refine wpQuiet_nil ?_
    refine wpP_read 2 rfl rfl (by kernel_rfl) rfl (fun _ d _ _ _ h => by cases d <;> exact h) ?_
    go_big_quiet_step (fail)
    refine wpQuiet_nil ?_
    refine wpP_read 4 rfl rfl (by kernel_rfl) rfl (fun _ d _ _ _ h => by cases d <;> exact h) ?_
    go_big_quiet_step (fail)
    refine wpQuiet_nil ?_
    refine wpP_read 5 rfl rfl (by kernel_rfl) rfl (fun _ d _ _ _ h => by cases d <;> exact h) ?_
    go_big_quiet_step (fail)
    refine wpQuiet_nil ?_
    clear x0 x1 x2 e3 d3 gl1 gl2 gl3 hov
    have BW5 := S.below
    have hB5 := Nat.le_trans hB0 BW5.size
    have K3n := Lib.hid (show strssE.rd w B [.slice (some ⟨ga, gp, none⟩) n oc] u.out from by have := K3'.out; rw [← HNO.out] at this; exact this)
    have J3n := Lib.hid (show strssE.rd w B [.slice (some ⟨fa, fp, none⟩) m pc] v.out from by have := J3'.out; rw [← HM.out] at this; exact this)
    have lenU : ∀ y, y ∈ u.out → y.length ≤ 1000000 := fun y hy => by have := HKU.out.len hy; omega
    have lenV : ∀ y, y ∈ v.out → y.length ≤ 1000000 := fun y hy => by have := HKV.out.len hy; omega
    have hlj : u.out.length + v.out.length ≤ 1000000000000 := by have := HNO.out; have := HM.out; omega
    have SL := Star.nil w5
    refine wpP_ready [3, 9] (by kernel_rfl) (by decide) (AllP.cons rfl (fun wA bA K hK => ?_) (AllP.cons rfl (fun wB bB K hK => ?_) AllP.nil))
    · replace SL := SL.step bA
      have LA := leN.of_below (Nat.le_refl _) (Nat.le_refl _) SL.below
      go_simp
      go_at_call 30
      refine (ownLists_strs _ u.out B _ (Nat.le_trans hB5 SL.below.size) (strssE.rd_of ((BW5.trans (SL.below.mono BW5.size)).mono hB0) K3n.out) (by have := HNO.out; omega) (lenU)).mono ?_
      rintro e wA2 ⟨ve, fe, rfl, oe, ne, lo, be⟩
      obtain ⟨ea, en, ec, rfl⟩ := ow_slice oe
      replace SL := SL.made oe ne lo be
      have LB := leN.of_below (Nat.le_refl _) (Nat.le_refl _) SL.below
      try go_simp
      refine hK _ _ (.inr (LA.symm.trans LB)) ?_
      clear hK K oe ne lo be bA LA LB
      refine wpP_ready [6, 9] (by kernel_rfl) (by decide) (AllP.cons rfl (fun wA bA K hK => ?_) (AllP.cons rfl (fun wB bB K hK => ?_) AllP.nil))
      · replace SL := SL.step bA
        have LA := leN.of_below (Nat.le_refl _) (Nat.le_refl _) SL.below
        go_simp
        go_at_call 30
        refine (ownLists_strs _ v.out B _ (Nat.le_trans hB5 SL.below.size) (strssE.rd_of ((BW5.trans (SL.below.mono BW5.size)).mono hB0) J3n.out) (by have := HM.out; omega) (lenV)).mono ?_
        rintro e wA2 ⟨ve, fe, rfl, oe, ne, lo, be⟩
        obtain ⟨ea, en, ec, rfl⟩ := ow_slice oe
        replace SL := SL.made oe ne lo be
        have LB := leN.of_below (Nat.le_refl _) (Nat.le_refl _) SL.below
        try go_simp
        refine hK _ _ (.inr (LA.symm.trans LB)) ?_
        clear hK K oe ne lo be bA LA LB
        refine wpP_ready [7, 9] (by kernel_rfl) (by decide) (AllP.cons rfl (fun wA bA K hK => ?_) (AllP.cons rfl (fun wB bB K hK => ?_) AllP.nil))
        · replace SL := SL.step bA
          have LA := leN.of_below (Nat.le_refl _) (Nat.le_refl _) SL.below
          have SM := SL.sel [1, 0]
          clear SL
          refine sstJz_StringSS SM rfl rfl rfl rfl hlj ?_
          intro ja jn jc w9 z9 SL
          have LB := leN.of_below (Nat.le_refl _) (Nat.le_refl _) SL.below
          try go_simp
          refine hK _ _ (.inr (LA.symm.trans LB)) ?_
          clear hK K LA LB z9 SM bA
          refine wpP_ready [8, 9] (by kernel_rfl) (by decide) (AllP.cons rfl (fun wA bA K hK => ?_) (AllP.cons rfl (fun wB bB K hK => ?_) AllP.nil))
          · replace SL := SL.step bA
            have LA := leN.of_below (Nat.le_refl _) (Nat.le_refl _) SL.below
            go_simp
            refine hK _ _ (.inr (leN.refl LA.hi)) ?_
            clear hK K bA LA
            refine wpP_ready [9] (by kernel_rfl) (by decide) (AllP.cons rfl (fun wB bB K hK => ?_) AllP.nil)
            replace SL := SL.step bB
            have hBB := (leN.of_below (Nat.le_refl _) (Nat.le_refl _) SL.below).hi
            go_simp
            refine hK _ _ (.inr (leN.of_le hBB ((Below.refl wB.heap.size wB).alloc (Nat.le_refl _) _))) ?_
            replace SL := SL.alloc (cs := #[.int .i64 0, .int .i64 0, .slice none 0 0, .slice none 0 0]) (ty := 34)
            clear hK K hBB
            generalize hWB : wB.alloc _ = wB2 at SL ⊢
            clear hWB bB
            obtain ⟨gB, hgB⟩ : ∃ g, g = wB.heap.size := ⟨_, rfl⟩
            rw [← hgB] at SL ⊢
            clear hgB
            replace SL := SL.sel [1, 0]
            refine wpP_ready [10] (by kernel_rfl) (by decide) (AllP.cons rfl (fun wA bA K hK => ?_) AllP.nil)
            replace SL := SL.step bA
            have NB := (leN.of_below (Nat.le_refl _) (Nat.le_refl _) SL.below).hi
            have x0 := (SL.blk 1 rfl).cell 0 rfl
            have x1 := (SL.blk 1 rfl).cell 1 rfl
            have x2 := (SL.blk 1 rfl).cell 2 rfl
            have x3 := (SL.blk 1 rfl).cell 3 rfl
            have xf := (SL.blk 1 rfl).free
            go_simp
            refine hK _ _ (.inl ⟨alone_of (by kernel_rfl), by simpa using NB⟩) ?_
            clear hK K bA x0 x1 x2 x3 xf NB
            refine wpP_done (by kernel_rfl) (fun wE bE => ?_)
            generalize hWE : (((wA.setCell _ _).setCell _ _).setCell _ _).setCell _ _ = wE0 at bE
            replace S := (S.merge (((SL.sel [1, 0]).set4 rfl hWE).step bE)).sel [0, 1, 3, 4, 6]
            clear bE hWE SL
            go_wp2
            go_meet
            exact ⟨_, _, _, _, rfl, S⟩
          · replace SL := SL.step bB
            have hBB := (leN.of_below (Nat.le_refl _) (Nat.le_refl _) SL.below).hi
            go_simp
            refine hK _ _ (.inr (leN.of_le hBB ((Below.refl wB.heap.size wB).alloc (Nat.le_refl _) _))) ?_
            replace SL := SL.alloc (cs := #[.int .i64 0, .int .i64 0, .slice none 0 0, .slice none 0 0]) (ty := 34)
            clear hK K hBB
            generalize hWB : wB.alloc _ = wB2 at SL ⊢
            clear hWB bB
            obtain ⟨gB, hgB⟩ : ∃ g, g = wB.heap.size := ⟨_, rfl⟩
            rw [← hgB] at SL ⊢
            clear hgB
            replace SL := SL.sel [1, 0]
            refine wpP_ready [8] (by kernel_rfl) (by decide) (AllP.cons rfl (fun wA bA K hK => ?_) AllP.nil)
            replace SL := SL.step bA
            have LA := leN.of_below (Nat.le_refl _) (Nat.le_refl _) SL.below
            go_simp
            refine hK _ _ (.inr (leN.refl LA.hi)) ?_
            clear hK K bA LA
            refine wpP_ready [10] (by kernel_rfl) (by decide) (AllP.cons rfl (fun wA bA K hK => ?_) AllP.nil)
            replace SL := SL.step bA
            have NB := (leN.of_below (Nat.le_refl _) (Nat.le_refl _) SL.below).hi
            have x0 := (SL.blk 1 rfl).cell 0 rfl
            have x1 := (SL.blk 1 rfl).cell 1 rfl
            have x2 := (SL.blk 1 rfl).cell 2 rfl
            have x3 := (SL.blk 1 rfl).cell 3 rfl
            have xf := (SL.blk 1 rfl).free
            go_simp
            refine hK _ _ (.inl ⟨alone_of (by kernel_rfl), by simpa using NB⟩) ?_
            clear hK K bA x0 x1 x2 x3 xf NB
            refine wpP_done (by kernel_rfl) (fun wE bE => ?_)
            generalize hWE : (((wA.setCell _ _).setCell _ _).setCell _ _).setCell _ _ = wE0 at bE
            replace S := (S.merge (((SL.sel [1, 0]).set4 rfl hWE).step bE)).sel [0, 1, 3, 4, 6]
            clear bE hWE SL
            go_wp2
            go_meet
            exact ⟨_, _, _, _, rfl, S⟩
        · replace SL := SL.step bB
          have hBB := (leN.of_below (Nat.le_refl _) (Nat.le_refl _) SL.below).hi
          go_simp
          refine hK _ _ (.inr (leN.of_le hBB ((Below.refl wB.heap.size wB).alloc (Nat.le_refl _) _))) ?_
          replace SL := SL.alloc (cs := #[.int .i64 0, .int .i64 0, .slice none 0 0, .slice none 0 0]) (ty := 34)
          clear hK K hBB
          generalize hWB : wB.alloc _ = wB2 at SL ⊢
          clear hWB bB
          obtain ⟨gB, hgB⟩ : ∃ g, g = wB.heap.size := ⟨_, rfl⟩
          rw [← hgB] at SL ⊢
          clear hgB
          replace SL := SL.sel [1, 2, 0]
          refine wpP_ready [7] (by kernel_rfl) (by decide) (AllP.cons rfl (fun wA bA K hK => ?_) AllP.nil)
          replace SL := SL.step bA
          have LA := leN.of_below (Nat.le_refl _) (Nat.le_refl _) SL.below
          have SM := SL.sel [1, 0, 2]
          clear SL
          refine sstJz_StringSS SM rfl rfl rfl rfl hlj ?_
          intro ja jn jc w9 z9 SL
          have LB := leN.of_below (Nat.le_refl _) (Nat.le_refl _) SL.below
          try go_simp
          refine hK _ _ (.inr (LA.symm.trans LB)) ?_
          clear hK K LA LB z9 SM bA
          refine wpP_ready [8] (by kernel_rfl) (by decide) (AllP.cons rfl (fun wA bA K hK => ?_) AllP.nil)
          replace SL := SL.step bA
          have LA := leN.of_below (Nat.le_refl _) (Nat.le_refl _) SL.below
          go_simp
          refine hK _ _ (.inr (leN.refl LA.hi)) ?_
          clear hK K bA LA
          refine wpP_ready [10] (by kernel_rfl) (by decide) (AllP.cons rfl (fun wA bA K hK => ?_) AllP.nil)
          replace SL := SL.step bA
          have NB := (leN.of_below (Nat.le_refl _) (Nat.le_refl _) SL.below).hi
          have x0 := (SL.blk 1 rfl).cell 0 rfl
          have x1 := (SL.blk 1 rfl).cell 1 rfl
          have x2 := (SL.blk 1 rfl).cell 2 rfl
          have x3 := (SL.blk 1 rfl).cell 3 rfl
          have xf := (SL.blk 1 rfl).free
          go_simp
          refine hK _ _ (.inl ⟨alone_of (by kernel_rfl), by simpa using NB⟩) ?_
          clear hK K bA x0 x1 x2 x3 xf NB
          refine wpP_done (by kernel_rfl) (fun wE bE => ?_)
          generalize hWE : (((wA.setCell _ _).setCell _ _).setCell _ _).setCell _ _ = wE0 at bE
          replace S := (S.merge (((SL.sel [1, 0]).set4 rfl hWE).step bE)).sel [0, 1, 3, 4, 6]
          clear bE hWE SL
          go_wp2
          go_meet
          exact ⟨_, _, _, _, rfl, S⟩
      · replace SL := SL.step bB
        have hBB := (leN.of_below (Nat.le_refl _) (Nat.le_refl _) SL.below).hi
        go_simp
        refine hK _ _ (.inr (leN.of_le hBB ((Below.refl wB.heap.size wB).alloc (Nat.le_refl _) _))) ?_
        replace SL := SL.alloc (cs := #[.int .i64 0, .int .i64 0, .slice none 0 0, .slice none 0 0]) (ty := 34)
        clear hK K hBB
        generalize hWB : wB.alloc _ = wB2 at SL ⊢
        clear hWB bB
        obtain ⟨gB, hgB⟩ : ∃ g, g = wB.heap.size := ⟨_, rfl⟩
        rw [← hgB] at SL ⊢
        clear hgB
        replace SL := SL.sel [1, 0]
        refine wpP_ready [6] (by kernel_rfl) (by decide) (AllP.cons rfl (fun wA bA K hK => ?_) AllP.nil)
        replace SL := SL.step bA
        have LA := leN.of_below (Nat.le_refl _) (Nat.le_refl _) SL.below
        go_simp
        go_at_call 30
        refine (ownLists_strs _ v.out B _ (Nat.le_trans hB5 SL.below.size) (strssE.rd_of ((BW5.trans (SL.below.mono BW5.size)).mono hB0) J3n.out) (by have := HM.out; omega) (lenV)).mono ?_
        rintro e wA2 ⟨ve, fe, rfl, oe, ne, lo, be⟩
        obtain ⟨ea, en, ec, rfl⟩ := ow_slice oe
        replace SL := SL.made oe ne lo be
        have LB := leN.of_below (Nat.le_refl _) (Nat.le_refl _) SL.below
        try go_simp
        refine hK _ _ (.inr (LA.symm.trans LB)) ?_
        clear hK K oe ne lo be bA LA LB
        refine wpP_ready [7] (by kernel_rfl) (by decide) (AllP.cons rfl (fun wA bA K hK => ?_) AllP.nil)
        replace SL := SL.step bA
        have LA := leN.of_below (Nat.le_refl _) (Nat.le_refl _) SL.below
        have SM := SL.sel [1, 0, 2]
        clear SL
        refine sstJz_StringSS SM rfl rfl rfl rfl hlj ?_
        intro ja jn jc w9 z9 SL
        have LB := leN.of_below (Nat.le_refl _) (Nat.le_refl _) SL.below
        try go_simp
        refine hK _ _ (.inr (LA.symm.trans LB)) ?_
        clear hK K LA LB z9 SM bA
        refine wpP_ready [8] (by kernel_rfl) (by decide) (AllP.cons rfl (fun wA bA K hK => ?_) AllP.nil)
        replace SL := SL.step bA
        have LA := leN.of_below (Nat.le_refl _) (Nat.le_refl _) SL.below
        go_simp
        refine hK _ _ (.inr (leN.refl LA.hi)) ?_
        clear hK K bA LA
        refine wpP_ready [10] (by kernel_rfl) (by decide) (AllP.cons rfl (fun wA bA K hK => ?_) AllP.nil)
        replace SL := SL.step bA
        have NB := (leN.of_below (Nat.le_refl _) (Nat.le_refl _) SL.below).hi
        have x0 := (SL.blk 1 rfl).cell 0 rfl
        have x1 := (SL.blk 1 rfl).cell 1 rfl
        have x2 := (SL.blk 1 rfl).cell 2 rfl
        have x3 := (SL.blk 1 rfl).cell 3 rfl
        have xf := (SL.blk 1 rfl).free
        go_simp
        refine hK _ _ (.inl ⟨alone_of (by kernel_rfl), by simpa using NB⟩) ?_
        clear hK K bA x0 x1 x2 x3 xf NB
        refine wpP_done (by kernel_rfl) (fun wE bE => ?_)
        generalize hWE : (((wA.setCell _ _).setCell _ _).setCell _ _).setCell _ _ = wE0 at bE
        replace S := (S.merge (((SL.sel [1, 0]).set4 rfl hWE).step bE)).sel [0, 1, 3, 4, 6]
        clear bE hWE SL
        go_wp2
        go_meet
        exact ⟨_, _, _, _, rfl, S⟩
    · replace SL := SL.step bB
      have hBB := (leN.of_below (Nat.le_refl _) (Nat.le_refl _) SL.below).hi
      go_simp
      refine hK _ _ (.inr (leN.of_le hBB ((Below.refl wB.heap.size wB).alloc (Nat.le_refl _) _))) ?_
      replace SL := SL.alloc (cs := #[.int .i64 0, .int .i64 0, .slice none 0 0, .slice none 0 0]) (ty := 34)
      clear hK K hBB
      generalize hWB : wB.alloc _ = wB2 at SL ⊢
      clear hWB bB
      obtain ⟨gB, hgB⟩ : ∃ g, g = wB.heap.size := ⟨_, rfl⟩
      rw [← hgB] at SL ⊢
      clear hgB
      refine wpP_ready [3] (by kernel_rfl) (by decide) (AllP.cons rfl (fun wA bA K hK => ?_) AllP.nil)
      replace SL := SL.step bA
      have LA := leN.of_below (Nat.le_refl _) (Nat.le_refl _) SL.below
      go_simp
      go_at_call 30
      refine (ownLists_strs _ u.out B _ (Nat.le_trans hB5 SL.below.size) (strssE.rd_of ((BW5.trans (SL.below.mono BW5.size)).mono hB0) K3n.out) (by have := HNO.out; omega) (lenU)).mono ?_
      rintro e wA2 ⟨ve, fe, rfl, oe, ne, lo, be⟩
      obtain ⟨ea, en, ec, rfl⟩ := ow_slice oe
      replace SL := SL.made oe ne lo be
      have LB := leN.of_below (Nat.le_refl _) (Nat.le_refl _) SL.below
      try go_simp
      refine hK _ _ (.inr (LA.symm.trans LB)) ?_
      clear hK K oe ne lo be bA LA LB
      refine wpP_ready [6] (by kernel_rfl) (by decide) (AllP.cons rfl (fun wA bA K hK => ?_) AllP.nil)
      replace SL := SL.step bA
      have LA := leN.of_below (Nat.le_refl _) (Nat.le_refl _) SL.below
      go_simp
      go_at_call 30
      refine (ownLists_strs _ v.out B _ (Nat.le_trans hB5 SL.below.size) (strssE.rd_of ((BW5.trans (SL.below.mono BW5.size)).mono hB0) J3n.out) (by have := HM.out; omega) (lenV)).mono ?_
      rintro e wA2 ⟨ve, fe, rfl, oe, ne, lo, be⟩
      obtain ⟨ea, en, ec, rfl⟩ := ow_slice oe
      replace SL := SL.made oe ne lo be
      have LB := leN.of_below (Nat.le_refl _) (Nat.le_refl _) SL.below
      try go_simp
      refine hK _ _ (.inr (LA.symm.trans LB)) ?_
      clear hK K oe ne lo be bA LA LB
      refine wpP_ready [7] (by kernel_rfl) (by decide) (AllP.cons rfl (fun wA bA K hK => ?_) AllP.nil)
      replace SL := SL.step bA
      have LA := leN.of_below (Nat.le_refl _) (Nat.le_refl _) SL.below
      have SM := SL.sel [1, 0, 2]
      clear SL
      refine sstJz_StringSS SM rfl rfl rfl rfl hlj ?_
      intro ja jn jc w9 z9 SL
      have LB := leN.of_below (Nat.le_refl _) (Nat.le_refl _) SL.below
      try go_simp
      refine hK _ _ (.inr (LA.symm.trans LB)) ?_
      clear hK K LA LB z9 SM bA
      refine wpP_ready [8] (by kernel_rfl) (by decide) (AllP.cons rfl (fun wA bA K hK => ?_) AllP.nil)
      replace SL := SL.step bA
      have LA := leN.of_below (Nat.le_refl _) (Nat.le_refl _) SL.below
      go_simp
      refine hK _ _ (.inr (leN.refl LA.hi)) ?_
      clear hK K bA LA
      refine wpP_ready [10] (by kernel_rfl) (by decide) (AllP.cons rfl (fun wA bA K hK => ?_) AllP.nil)
      replace SL := SL.step bA
      have NB := (leN.of_below (Nat.le_refl _) (Nat.le_refl _) SL.below).hi
      have x0 := (SL.blk 1 rfl).cell 0 rfl
      have x1 := (SL.blk 1 rfl).cell 1 rfl
      have x2 := (SL.blk 1 rfl).cell 2 rfl
      have x3 := (SL.blk 1 rfl).cell 3 rfl
      have xf := (SL.blk 1 rfl).free
      go_simp
      refine hK _ _ (.inl ⟨alone_of (by kernel_rfl), by simpa using NB⟩) ?_
      clear hK K bA x0 x1 x2 x3 xf NB
      refine wpP_done (by kernel_rfl) (fun wE bE => ?_)
      generalize hWE : (((wA.setCell _ _).setCell _ _).setCell _ _).setCell _ _ = wE0 at bE
      replace S := (S.merge (((SL.sel [1, 0]).set4 rfl hWE).step bE)).sel [0, 1, 3, 4, 6]
      clear bE hWE SL
      go_wp2
      go_meet
      exact ⟨_, _, _, _, rfl, S⟩
  case rest =>
    clear S
    obtain ⟨g10, la, ln, lc, rfl, S⟩ := hcut
    have hol : (u.out ++ v.out).length = n + m := by rw [List.length_append, ← HNO.out, ← HM.out]
    obtain ⟨og, oc2, hv, -, -, -, -⟩ := S.rows 1 rfl (by rw [hol]; omega)
    simp only [Value.slice.injEq] at hv
    obtain ⟨rfl, rfl, rfl⟩ := hv
    rw [hol] at S
    obtain ⟨N, hN⟩ : ∃ N, N = n + m := ⟨_, rfl⟩
    rw [← hN] at S
    have HNN := Lib.hid hN
    clear hol hN
    obtain ⟨F, hF⟩ : ∃ F : Nat → List ByteArray, F = fun s => joinRow c bo (u.turner.moves[s]?.getD default) (u.out[s]?.getD default) := ⟨_, rfl⟩
    have HF := Lib.hid hF
    have HJO : Hid (joinW u v = ⟨t, (List.range u.out.length).map F ++ v.out ++ [(List.replicate (c + 2) (⟨#[]⟩ : ByteArray)).set c bo]⟩) := Lib.hid (by rw [hF]; exact HJO.out)
    clear hF
    have d2 := (S.blk 4 rfl).cell 2 rfl
    go_wp2
    clear d2
    go_loopw [61] (fun q wr => ∃ (j : Nat), j ≤ n ∧ q = .int .i64 j ∧ Star w wr [oB g10 [.int .i64 t.letters, .int .i64 t.start, .slice ca cn cc, .slice (some ⟨og, 0, none⟩) N lc] 34, oE strssE [.slice (some ⟨og, 0, none⟩) N lc] ((List.range j).map F ++ u.out.drop j ++ v.out), oE movessE [.slice ca cn cc] t.moves, oB (w.heap.size + 1 + 1) [.int .i64 0, .int .i64 0, .slice none 0 0, .slice none 0 0] 34, oB w.heap.size [.int .i64 (c : Int), .int .i64 u.turner.start, .slice (some ⟨ha, hp, none⟩) n tc, .slice (some ⟨ga, gp, none⟩) n oc] 34]) (fun q _ => n - (intOf q).toNat)
    case atStart => exact ⟨0, by omega, rfl, S⟩
    case round =>
      clear S
      obtain ⟨j, hj, rfl, S⟩ := hrel
      by_cases hlt : j < n
      case neg =>
        obtain rfl : n = j := by omega
        rw [jmix_all F u.out v.out n HNO.out] at S
        go_wp2_with fail
        refine (nothing_any c hc3 wr).mono ?_
        rintro e w11 ⟨q1, rfl, hq, lo, b⟩
        replace S := S.blocked hq lo b
        clear hq lo b
        obtain ⟨u0, c0⟩ : ∃ y, w11.cell? ⟨q1, c, none⟩ = some y := ⟨_, (S.blk 0 rfl).cell c (by rw [List.getElem?_replicate, if_pos (by omega)])⟩
        have cf := (S.blk 0 rfl).free
        have i6 : (0 : Int) ≤ (c : Int) := by omega
        have i7 : (c : Int) < ((c + 2 : Nat) : Int) := by omega
        go_upto_region 17 with fail
        generalize hW : w11.setCell _ _ = w12
        have SB := S.set c (.string bo)
        rw [hW, home_vals] at SB
        have S1 := SB.lits (E := strE) ((List.replicate (c + 2) (⟨#[]⟩ : ByteArray)).set c bo) (fun x => [Value.string x]) (c + 2) (by rw [List.length_set, List.length_replicate]) rfl (home_in (c + 2) c bo (by omega) _) (by simp [maxLen]; omega)
        clear SB hW c0 cf S i6 i7
        have hlm : ((List.range u.out.length).map F ++ v.out).length ≤ 1000000000000 := by
          rw [List.length_append, List.length_map, List.length_range, ← HNO.out, ← HM.out]; omega
        have f3 := (S1.blk 1 rfl).cell 3 rfl
        have SC := (S1.alloc (cs := #[.slice (some ⟨q1, 0, none⟩) (c + 2) (c + 2)]) (ty := 47)).sel [3, 1, 2, 4, 5]
        go_upto_region 18 with (at_builtin; refine st1_StringSS SC rfl rfl rfl rfl cell_a1 (one_mem rfl) hlm ?_; intro ja jn jc w13 S9; have x9 := (S9.blk 1 rfl).cell 3 rfl; have cf := (S9.blk 1 rfl).free)
        replace S9 := (S9.sel [1, 0, 2, 3]).set 3 (.slice ja jn jc)
        generalize hW : w13.setCell _ _ = w14 at S9 ⊢
        clear hW x9 cf SC f3 hlm S1
        have S := S9
        clear S9
        have x0 := (S.blk 0 rfl).cell 0 rfl
        have x1 := (S.blk 0 rfl).cell 1 rfl
        have x2 := (S.blk 0 rfl).cell 2 rfl
        have x3 := (S.blk 0 rfl).cell 3 rfl
        obtain ⟨O, hO⟩ : ∃ O, O = (List.range u.out.length).map F ++ v.out ++ [(List.replicate (c + 2) (⟨#[]⟩ : ByteArray)).set c bo] := ⟨_, rfl⟩
        have HJO2 : Hid (joinW u v = ⟨t, O⟩) := Lib.hid (by rw [hO]; exact HJO.out)
        rw [← hO] at S
        clear hO
        go_wp2_with fail
        clear x0 x1 x2 x3
        have hX5 : x = (if writerOk ⟨t, O⟩ then (⟨t, O⟩, 0) else (default, 3)) := by rw [← HJO2.out]; exact HX4.out
        cases hv : writerOk (⟨t, O⟩ : Writer)
        case false =>
          refine (writerOr_no _ (⟨t, O⟩ : Writer) _ w14 (Nat.le_refl _) (rd_writE (r := (⟨t, O⟩ : Writer)) (S.rd 2 rfl) (S.rd 1 rfl) i0 i1) hv).mono ?_
          rintro e w15 ⟨rfl, b⟩
          replace S := (S.step b).sel [3]
          clear b
          have hto : x = (default, 3) := by rw [hX5, hv]; rfl
          have HT := Lib.hid hto
          clear hto hX5
          have R0 := S.blk 0 rfl
          have c0 := R0.cell 0 rfl
          have c1 := R0.cell 1 rfl
          have c2 := R0.cell 2 rfl
          have c3 := R0.cell 3 rfl
          have f0 := R0.free
          go_wp2
          generalize hW : (((w15.setCell _ _).setCell _ _).setCell _ _).setCell _ _ = w9
          replace S := S.set4 rfl hW
          have A3 := S.blk 0 rfl
          have q0 := A3.cell 0 rfl
          have q1 := A3.cell 1 rfl
          have q2 := A3.cell 2 rfl
          have q3 := A3.cell 3 rfl
          obtain rfl : x = (default, 3) := by exact HT.out
          exact bodyPost_ret (v := .tuple #[.agg #[.int .i64 0, .int .i64 0, .slice none 0 0, .slice none 0 0], .int .i64 3]) (by simp [results, Tryd.results11, go_sem, q0, q1, q2, q3]) rfl (S.flat (ow_Writer_zero _)).done
        refine (writerOr_yes _ (⟨t, O⟩ : Writer) _ w14 (Nat.le_refl _) (rd_writE (r := (⟨t, O⟩ : Writer)) (S.rd 2 rfl) (S.rd 1 rfl) i0 i1) hv).mono ?_
        rintro e w15 ⟨rfl, b⟩
        replace S := S.step b
        clear b
        have hto : x = (⟨t, O⟩, 0) := by rw [hX5, hv]; rfl
        have HT := Lib.hid hto
        clear hto hX5
        have R0 := S.blk 3 rfl
        have c0 := R0.cell 0 rfl
        have c1 := R0.cell 1 rfl
        have c2 := R0.cell 2 rfl
        have c3 := R0.cell 3 rfl
        have f0 := R0.free
        go_wp2
        generalize hW : (((w15.setCell _ _).setCell _ _).setCell _ _).setCell _ _ = w16
        replace S := (S.sel [3, 2, 1]).set4 rfl hW
        have A3 := S.blk 0 rfl
        have q0 := A3.cell 0 rfl
        have q1 := A3.cell 1 rfl
        have q2 := A3.cell 2 rfl
        have q3 := A3.cell 3 rfl
        obtain rfl := HT.out
        exact bodyPost_ret (v := .tuple #[.agg #[.int .i64 t.letters, .int .i64 t.start, .slice ca cn cc, .slice ja jn jc], .int .i64 0]) (by simp [results, Tryd.results11, go_sem, q0, q1, q2, q3]) rfl (writ_done (x := (⟨t, O⟩ : Writer)) (c := 0) (S.sel [1, 2]) i0 i1)
      obtain ⟨vk, hrc, hrd⟩ := Q4.out j hlt
      have hjm : j < u.turner.moves.length := by rw [← HN.out]; exact hlt
      have hjo : j < u.out.length := by rw [← HNO.out]; exact hlt
      have hmem := mem_getD (l := u.turner.moves) (k := j) hjm
      have hlen := (HKU.out.t.row _ hmem).1
      obtain ⟨hro, hrs⟩ := HKU.out.row j hjo
      have hge : u.out[j]?.getD default = u.out[j] := by rw [List.getElem?_eq_getElem hjo]; rfl
      have hFj : F j = joinRow c bo (u.turner.moves[j]?.getD default) (u.out[j]?.getD default) := by rw [HF.out]
      have hmg := jmix_get F u.out v.out j hjo
      have hms := jmix_set F u.out v.out j hjo
      have hmn := jmix_same F u.out v.out j hjo
      rw [← hge] at hmg hmn
      obtain ⟨row, hrow⟩ : ∃ y, y = u.turner.moves[j]?.getD default := ⟨_, rfl⟩
      obtain ⟨orow, horow⟩ : ∃ y, y = u.out[j]?.getD default := ⟨_, rfl⟩
      rw [← hrow] at hrd hlen hro hFj
      rw [← horow] at hro hrs hFj hmg hmn
      rw [HC.out] at hlen
      have hl2 : row.length = c + 2 := by omega
      have ho2 : orow.length = c + 2 := by omega
      obtain ⟨ma, mc, rfl, m1, m2, -, m4⟩ := rd_movesE hrd
      rw [hl2] at m1 m4 hrc
      obtain ⟨sb, so, rfl, -, ⟨hm0, hm1'⟩, -⟩ := m4 c (by omega)
      obtain ⟨M, hM⟩ : ∃ y, y = (List.range j).map F ++ u.out.drop j ++ v.out := ⟨_, rfl⟩
      rw [← hM] at hmg hms hmn S
      have hmc : (row[c]?.getD default).to = (row[c]?.getD default).to := rfl
      obtain ⟨mv, hmv⟩ : ∃ y, y = row[c]?.getD default := ⟨_, rfl⟩
      rw [← hmv] at hm0 hm1'
      unfold joinRow at hFj
      rw [← hmv] at hFj
      have BW := S.below
      have z0 := (BW.cell (World.block_lt_of_cell? w _ hrc)).trans hrc
      have z1 := (BW.cell (World.block_lt_of_cell? w _ hm0)).trans hm0
      have i6 : (0 : Int) ≤ (j : Int) := by omega
      have i7 : (j : Int) < (n : Int) := by omega
      have i8 : (0 : Int) ≤ (c : Int) := by omega
      have i9 : (c : Int) < ((c + 2 : Nat) : Int) := by omega
      have HFJ := Lib.hid hFj; have HMG := Lib.hid hmg; have HMS := Lib.hid hms; have HMN := Lib.hid hmn; have HO2 := Lib.hid ho2; have HRS := Lib.hid hrs
      clear hrc hrd hmem hlen hro hrs hge hFj hmg hms hmn hrow horow hl2 ho2 m4 hm0 hm1' hM hmc hmv BW hjm
      by_cases hto : mv.to = -1
      case neg =>
        have tB : (mv.to == -1) = false := by simpa using hto
        have hs := HMN.out (by have := HFJ.out; rwa [if_neg hto] at this)
        have HSA := Lib.hid hs
        clear hs
        go_wp2
        go_roundw
        case rel => exact ⟨j + 1, by omega, by go_num, by rw [HSA.out]; exact S⟩
        case measure => simp [intOf]; omega
      have tB : (mv.to == -1) = true := by simpa using hto
      have hFj2 : F j = orow.set c ((orow[c]?.getD ByteArray.empty) ++ bo) := by have := HFJ.out; rwa [if_pos hto] at this
      have hoc : c < orow.length := by rw [HO2.out]; omega
      have hog : orow[c]? = some (orow[c]?.getD ByteArray.empty) := by rw [List.getElem?_eq_getElem hoc]; rfl
      have hos := outOk_size (HRS.out _ (List.mem_of_getElem? hog))
      obtain ⟨ys, hys⟩ : ∃ y, y = orow[c]?.getD ByteArray.empty := ⟨_, rfl⟩
      rw [← hys] at hFj2 hog hos
      clear hys
      obtain ⟨og', oc', hv, -, -, -, n4⟩ := S.rows 1 rfl (by have := HMG.out; cases M with | nil => simp at this | cons a l => simp)
      simp only [Value.slice.injEq, Option.some.injEq, Addr.mk.injEq, and_true] at hv
      obtain ⟨rfl, -, rfl⟩ := hv
      obtain ⟨rb, rc, r1, r2, -, rf, r5⟩ := n4 j orow HMG.out (by rw [HO2.out]; omega)
      rw [HO2.out] at r1 r2
      obtain ⟨zs, s1, s2⟩ := r5 c ys hog
      obtain ⟨hz, -⟩ := s1
      obtain rfl : zs = [.string ys] := hz
      have y0 : wr.cell? ⟨rb, c, none⟩ = some (.string ys) := by have := s2 0 _ rfl; simpa [strE] using this
      have x3 := (S.blk 0 rfl).cell 3 rfl
      have i10 : (j : Int) < (N : Int) := by have := HNN.out; omega
      have hsz : (ys ++ bo).size ≤ maxLen := by rw [ByteArray.size_append]; unfold maxLen; omega
      have HFJ2 := Lib.hid hFj2
      have HSZ := Lib.hid hsz
      clear n4 r5 s2 hog hFj2 hoc hsz
      go_wp2
      have SM := (S.sel [1, 0, 2, 3, 4]).setStr j orow HMG.out r1 c (ys ++ bo) HSZ.out
      rw [← HFJ2.out, HMS.out] at SM
      go_roundw
      case rel => exact ⟨j + 1, by omega, by go_num, SM.sel [1, 0, 2, 3, 4]⟩
      case measure => simp [intOf]; omega

end Go.Proofs.YtnkhgfdlehhjmaaDoor
