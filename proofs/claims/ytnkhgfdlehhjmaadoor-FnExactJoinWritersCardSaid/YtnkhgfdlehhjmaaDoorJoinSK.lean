/-
  JoinWriters of the reference.
-/
import Derived.Test.YtnkhgfdlehhjmaaDoorPackA
import Derived.Test.YtnkhgfdlehhjmaaDoorThenSK
import Derived.Test.YtnkhgfdlehhjmaaDoorToldK
import Derived.Test.YtnkhgfdlehhjmaaDoorJoinLK
import Derived.Test.YtnkhgfdlehhjmaaDoorStepSK
import Derived.Test.YtnkhgfdlehhjmaaDoorBackK
namespace Go.Proofs.YtnkhgfdlehhjmaaDoor
open Go.RowKit

set_option maxHeartbeats 8000000 in
set_option maxRecDepth 100000 in
theorem specJoinWriters_is (x : Writer × Int) (cs : List Value) (u : Writer) (ds : List Value) (v : Writer) (B : Nat) (w : World) (hB0 : B ≤ w.heap.size) (h : writE.rd w B cs u) (h' : writE.rd w B ds v) (hx : joinWriters u v = x) :
    Calls Tryd.prog 10 #[.agg cs.toArray, .agg ds.toArray] w (MakesC writE x w) := by
  have HX := Lib.hid hx
  have RA := Lib.hid h
  have RB := Lib.hid h'
  obtain ⟨u2, u3, rfl, k0, k1, k2, k3⟩ := rd_WriterF h
  obtain ⟨v2, v3, rfl, j0, j1, j2, j3⟩ := rd_WriterF h'
  have K2 := Lib.hid k2; have K3 := Lib.hid k3; have J2 := Lib.hid j2; have J3 := Lib.hid j3
  obtain ⟨ta, tn, tc, rfl⟩ := rd_slice k2
  obtain ⟨oa, on, oc, rfl⟩ := rd_slice k3
  obtain ⟨ba, bn, bc, rfl⟩ := rd_slice j2
  obtain ⟨pa, pn, pc, rfl⟩ := rd_slice j3
  clear hx h h' k2 k3 j2 j3
  have S := (((Star.nil w).alloc (cs := #[.int .i64 u.turner.letters, .int .i64 u.turner.start, .slice ta tn tc, .slice oa on oc]) (ty := 34)).alloc (cs := #[.int .i64 v.turner.letters, .int .i64 v.turner.start, .slice ba bn bc, .slice pa pn pc]) (ty := 34)).alloc (cs := #[.int .i64 0, .int .i64 0, .slice none 0 0, .slice none 0 0]) (ty := 34)
  rw [World.size_alloc, World.size_alloc] at S
  go_enter Tryd.func10, Tryd.ntmps10
  go_wp2_with fail
  generalize hW : ((w.alloc _).alloc _).alloc _ = w0 at S ⊢
  clear hW
  replace S : Star w w0 [oB (w.heap.size + 1 + 1) [.int .i64 0, .int .i64 0, .slice none 0 0, .slice none 0 0] 34, oB (w.heap.size + 1) [.int .i64 v.turner.letters, .int .i64 v.turner.start, .slice ba bn bc, .slice pa pn pc] 34, oB w.heap.size [.int .i64 u.turner.letters, .int .i64 u.turner.start, .slice ta tn tc, .slice oa on oc] 34] := S
  refine (l07Ok_any _ _ u B _ _ (Nat.le_trans hB0 S.below.size) (S.blk 2 rfl) (movessE.rd_of (S.below.mono hB0) K2.out) (strssE.rd_of (S.below.mono hB0) K3.out)).mono ?_
  rintro e w1 ⟨rfl, b⟩
  replace S := S.step b
  clear b
  cases h1 : writerOk u
  case false =>
    clear K2 K3 J2 J3
    have R0 := S.blk 0 rfl
    have c0 := R0.cell 0 rfl
    have c1 := R0.cell 1 rfl
    have c2 := R0.cell 2 rfl
    have c3 := R0.cell 3 rfl
    have f0 := R0.free
    go_wp2
    generalize hW : (((w1.setCell _ _).setCell _ _).setCell _ _).setCell _ _ = w9
    replace S := S.set4 rfl hW
    have A3 := S.blk 0 rfl
    have q0 := A3.cell 0 rfl
    have q1 := A3.cell 1 rfl
    have q2 := A3.cell 2 rfl
    have q3 := A3.cell 3 rfl
    obtain rfl : x = (default, 1) := by rw [← HX.out]; unfold joinWriters; rw [h1]; rfl
    exact bodyPost_ret (v := .tuple #[.agg #[.int .i64 0, .int .i64 0, .slice none 0 0, .slice none 0 0], .int .i64 1]) (by simp [results, Tryd.results10, go_sem, q0, q1, q2, q3]) rfl (S.flat (ow_Writer_zero _)).done
  go_wp2_with fail
  refine (l07Ok_any _ _ v B _ _ (Nat.le_trans hB0 S.below.size) (S.blk 1 rfl) (movessE.rd_of (S.below.mono hB0) J2.out) (strssE.rd_of (S.below.mono hB0) J3.out)).mono ?_
  rintro e w2 ⟨rfl, b⟩
  replace S := S.step b
  clear b
  cases h2 : writerOk v
  case false =>
    clear K2 K3 J2 J3
    have R0 := S.blk 0 rfl
    have c0 := R0.cell 0 rfl
    have c1 := R0.cell 1 rfl
    have c2 := R0.cell 2 rfl
    have c3 := R0.cell 3 rfl
    have f0 := R0.free
    go_wp2
    generalize hW : (((w2.setCell _ _).setCell _ _).setCell _ _).setCell _ _ = w9
    replace S := S.set4 rfl hW
    have A3 := S.blk 0 rfl
    have q0 := A3.cell 0 rfl
    have q1 := A3.cell 1 rfl
    have q2 := A3.cell 2 rfl
    have q3 := A3.cell 3 rfl
    obtain rfl : x = (default, 1) := by rw [← HX.out]; unfold joinWriters; rw [h1, h2]; rfl
    exact bodyPost_ret (v := .tuple #[.agg #[.int .i64 0, .int .i64 0, .slice none 0 0, .slice none 0 0], .int .i64 1]) (by simp [results, Tryd.results10, go_sem, q0, q1, q2, q3]) rfl (S.flat (ow_Writer_zero _)).done
  have KU := writOk_of h1
  have KV := writOk_of h2
  have hX := joinWriters_eq h1 h2
  rw [HX.out] at hX
  obtain ⟨n, hn⟩ : ∃ n, n = u.turner.moves.length := ⟨_, rfl⟩
  obtain ⟨m, hm⟩ : ∃ m, m = v.out.length := ⟨_, rfl⟩
  have hno : n = u.out.length := by rw [hn, KU.n]
  have hn12 : n ≤ 12 := by rw [hn]; exact KU.t.n12
  have hm12 : m ≤ 12 := by rw [hm, KV.n]; exact KV.t.n12
  have hn1 : 1 ≤ n := by rw [hn]; exact KU.t.n1
  have hm1 : 1 ≤ m := by rw [hm, KV.n]; exact KV.t.n1
  obtain ⟨c, hc⟩ : ∃ c : Nat, u.turner.letters = c := ⟨u.turner.letters.toNat, by have := KU.t.l1; omega⟩
  have hc1 : 1 ≤ c := by have := KU.t.l1; omega
  have hc3 : c ≤ 3 := by have := KU.t.l3; omega
  obtain ⟨St, hSt⟩ : ∃ k : Nat, v.turner.start = k := ⟨v.turner.start.toNat, by have := KV.t.s0; omega⟩
  have hStm : St < m := by have := KV.t.s1; rw [hm, KV.n]; omega
  obtain ⟨ha, hp, tc', ht, q1, q2, q4⟩ := rd_s1p rfl K2.out (by rw [← hn]; exact hn1)
  simp only [Value.slice.injEq] at ht
  obtain ⟨rfl, rfl, rfl⟩ := ht
  obtain ⟨ga, gp, oc', ht, p1, p2, -⟩ := rd_s1p rfl K3.out (by rw [← hno]; exact hn1)
  simp only [Value.slice.injEq] at ht
  obtain ⟨rfl, rfl, rfl⟩ := ht
  obtain ⟨fa, fp, pc', ht, o1, o2, o4⟩ := rd_s1p rfl J3.out (by rw [← hm]; exact hm1)
  simp only [Value.slice.injEq] at ht
  obtain ⟨rfl, rfl, rfl⟩ := ht
  have K2' := Lib.hid K2.out; have K3' := Lib.hid K3.out; have J3' := Lib.hid J3.out
  rw [← hn] at q1 q4 S
  rw [← hno] at p1 S
  rw [← hm] at o1 o4 S
  have HKU := Lib.hid KU; have HKV := Lib.hid KV; have HN := Lib.hid hn; have HNO := Lib.hid hno; have HM := Lib.hid hm; have HC := Lib.hid hc; have HST := Lib.hid hSt; have HX2 := Lib.hid hX
  have Q4 := Lib.hid q4; have O4 := Lib.hid o4
  clear KU KV hn hno hm hc hSt hX q4 o4 HX K2 K3 J3 RA RB
  have e0 := (S.blk 1 rfl).cell 0 rfl
  have e1 := (S.blk 1 rfl).cell 1 rfl
  have e2 := (S.blk 1 rfl).cell 2 rfl
  have d0 := (S.blk 2 rfl).cell 0 rfl
  have d1 := (S.blk 2 rfl).cell 1 rfl
  have d2 := (S.blk 2 rfl).cell 2 rfl
  go_wp2_with fail
  clear e0 e1 e2 d0 d1 d2
  have hB2 := Nat.le_trans hB0 S.below.size
  refine (specThenTurner_is _ _ u.turner _ v.turner B _ hB2 (turn_rd k0 k1 (movessE.rd_of (S.below.mono hB0) (by have := K2'.out; rw [← HN.out] at this; exact this))) (turn_rd j0 j1 (movessE.rd_of (S.below.mono hB0) J2.out)) rfl).mono ?_
  rintro e w3 ⟨cs, fpt, rfl, o, nd, lo, b⟩
  obtain ⟨v5, rfl, i0, i1, o5⟩ := rd_Turner (Enc.rd_ow _ o)
  obtain ⟨ca, cn, cc, rfl⟩ := rd_slice o5
  obtain ⟨t, ht⟩ : ∃ t, t = (thenTurner u.turner v.turner).1 := ⟨_, rfl⟩
  obtain ⟨cd, hcd⟩ : ∃ c, c = (thenTurner u.turner v.turner).2 := ⟨_, rfl⟩
  have hX3 : x = (if cd = 0 then (if writerOk (joinW u v) then (joinW u v, 0) else (default, 3)) else (default, cd)) := by rw [hcd]; exact HX2.out
  have htt : cd = 0 → thenT u.turner v.turner = t := fun h => by rw [ht]; exact (thenTurner_fst (by rw [← hcd]; exact h)).symm
  have hll : cd = 0 → u.turner.letters = v.turner.letters := fun h => thenTurner_letters (by rw [← hcd]; exact h)
  rw [← ht] at o i0 i1 ⊢
  rw [← hcd]
  clear ht hcd o5 hB2
  replace S := (S.made o nd lo b).moves.alloc (cs := #[.int .i64 t.letters, .int .i64 t.start, .slice ca cn cc]) (ty := 32)
  clear o nd lo b
  by_cases hc0 : cd = 0
  case neg =>
    have tA : (cd != 0) = true := by simpa using hc0
    have hx : x = (default, cd) := by rw [if_neg hc0] at hX3; exact hX3
    have HX := Lib.hid hx
    clear hx hX3 htt hll
    have R0 := S.blk 2 rfl
    have c0 := R0.cell 0 rfl
    have c1 := R0.cell 1 rfl
    have c2 := R0.cell 2 rfl
    have c3 := R0.cell 3 rfl
    have f0 := R0.free
    go_wp2
    generalize hW : ((((w3.alloc _).setCell _ _).setCell _ _).setCell _ _).setCell _ _ = w9
    replace S := (S.sel [2, 0, 1, 3, 4]).set4 rfl hW
    have A3 := S.blk 0 rfl
    have q0 := A3.cell 0 rfl
    have q1 := A3.cell 1 rfl
    have q2 := A3.cell 2 rfl
    have q3 := A3.cell 3 rfl
    obtain rfl := HX.out
    exact bodyPost_ret (v := .tuple #[.agg #[.int .i64 0, .int .i64 0, .slice none 0 0, .slice none 0 0], .int .i64 cd]) (by simp [results, Tryd.results10, go_sem, q0, q1, q2, q3]) rfl (S.flat (ow_Writer_zero _)).done
  have hX4 : x = (if writerOk (joinW u v) then (joinW u v, 0) else (default, 3)) := by rw [if_pos hc0] at hX3; exact hX3
  have hl2 := hll hc0
  have htt2 := htt hc0
  clear hX3 htt hll
  subst hc0
  obtain ⟨vk, hrc, hrd⟩ := O4.out St hStm
  have hrl : (v.out[St]?.getD default).length = c + 2 := by
    have h5 := (HKV.out.row St (by rw [← HM.out]; exact hStm)).1
    have h6 := HKV.out.n
    have h7 := HM.out
    have h8 := (HKV.out.t.row _ (mem_getD (l := v.turner.moves) (k := St) (by omega))).1
    have h9 := HC.out
    omega
  have hbo : beginO v = (v.out[St]?.getD default)[c]?.getD default := by
    unfold beginO
    rw [HST.out, ← hl2, HC.out]
    rfl
  have hbs : ∀ y, y ∈ v.out[St]?.getD default → y.size ≤ 3 := fun y hy => outOk_size ((HKV.out.row St (by rw [← HM.out]; exact hStm)).2 y hy)
  have hbz := hbs _ (mem_getD (l := v.out[St]?.getD default) (k := c) (by rw [hrl]; omega))
  obtain ⟨ra, rp, rcap, rfl, r1, r2, r4⟩ := rd_s1p rfl hrd (by rw [hrl]; omega)
  rw [hrl] at r1 r4 hrc
  obtain ⟨vs, hs, hsr⟩ := r4 c (by omega)
  obtain ⟨hv, -⟩ := hsr
  rw [← hbo] at hv hbz
  obtain ⟨bo, hbo2⟩ : ∃ y, y = beginO v := ⟨_, rfl⟩
  rw [← hbo2] at hv hbz
  obtain rfl : vs = .string bo := by simpa using hv
  have hJO : joinW u v = ⟨t, (List.range u.out.length).map (fun s => joinRow c bo (u.turner.moves[s]?.getD default) (u.out[s]?.getD default)) ++ v.out ++ [(List.replicate (c + 2) (⟨#[]⟩ : ByteArray)).set c bo]⟩ := by
    unfold joinW joinOut
    rw [htt2, HC.out, ← hbo2]
    rfl
  have HJO := Lib.hid hJO; have HX4 := Lib.hid hX4; have HRC := Lib.hid hrc; have HS := Lib.hid hs; have HLL := Lib.hid hl2
  clear hJO hX4 hrd hbo hbo2 hbs r4 hv hrl htt2
  rw [HC.out, ← HLL.out, HC.out, HST.out] at S
  have i2 : (0 : Int) ≤ (St : Int) := by omega
  have i3 : (St : Int) < (m : Int) := by omega
  have i4 : (0 : Int) ≤ (c : Int) := by omega
  have i5 : (c : Int) < ((c + 2 : Nat) : Int) := by omega
  clear hrc hs hl2
  have lenU : ∀ y, y ∈ u.out → y.length ≤ 1000000 := fun y hy => by have := HKU.out.len hy; omega
  have lenV : ∀ y, y ∈ v.out → y.length ≤ 1000000 := fun y hy => by have := HKV.out.len hy; omega
  have LENV := Lib.hid lenV
  clear lenV
  have K3n := Lib.hid (show strssE.rd w B [.slice (some ⟨ga, gp, none⟩) n oc] u.out from by have := K3'.out; rw [← HNO.out] at this; exact this)
  have J3n := Lib.hid (show strssE.rd w B [.slice (some ⟨fa, fp, none⟩) m pc] v.out from by have := J3'.out; rw [← HM.out] at this; exact this)
  have e1 := (S.blk 3 rfl).cell 1 rfl
  have e3 := (S.blk 3 rfl).cell 3 rfl
  have d0 := (S.blk 4 rfl).cell 0 rfl
  have d3 := (S.blk 4 rfl).cell 3 rfl
  have BW := S.below
  have z0 := (BW.cell (World.block_lt_of_cell? w _ HRC.out)).trans HRC.out
  have z1 := (BW.cell (World.block_lt_of_cell? w _ HS.out)).trans HS.out
  go_wp2_with fail
  generalize hW : w3.alloc _ = w4 at S ⊢
  obtain ⟨g6, hg6⟩ : ∃ g, g = w3.heap.size := ⟨_, rfl⟩
  rw [← hg6] at S ⊢
  clear hW hg6 e1 e3 d0 d3 BW z0 z1
  refine (l07Texts_any _ u.out B _ (Nat.le_trans hB0 S.below.size) (strssE.rd_of (S.below.mono hB0) K3n.out) (by have := HNO.out; omega) lenU).mono ?_
  rintro e w5 ⟨ve, fe, rfl, oe, ne, lo, be⟩
  obtain ⟨la, ln, lc, rfl⟩ := ow_slice oe
  replace S := S.made oe ne lo be
  clear oe ne lo be lenU
  obtain ⟨og, oc2, hv, -, -, -, -⟩ := S.rows 0 rfl (by rw [← HNO.out]; omega)
  simp only [Value.slice.injEq] at hv
  obtain ⟨rfl, rfl, rfl⟩ := hv
  rw [← HNO.out] at S ⊢
  obtain ⟨F, hF⟩ : ∃ F : Nat → List ByteArray, F = fun s => joinRow c bo (u.turner.moves[s]?.getD default) (u.out[s]?.getD default) := ⟨_, rfl⟩
  have HF := Lib.hid hF
  have HJO : Hid (joinW u v = ⟨t, (List.range u.out.length).map F ++ v.out ++ [(List.replicate (c + 2) (⟨#[]⟩ : ByteArray)).set c bo]⟩) := Lib.hid (by rw [hF]; exact HJO.out)
  clear hF
  have S0 : Star w w5 [oE strssE [.slice (some ⟨og, 0, none⟩) n lc] ((List.range 0).map F ++ u.out.drop 0 ++ []), oB g6 [.int .i64 t.letters, .int .i64 t.start, .slice ca cn cc] 32, oE movessE [.slice ca cn cc] t.moves, oB (w.heap.size + 1 + 1) [.int .i64 0, .int .i64 0, .slice none 0 0, .slice none 0 0] 34, oB (w.heap.size + 1) [.int .i64 (c : Int), .int .i64 (St : Int), .slice ba bn bc, .slice (some ⟨fa, fp, none⟩) m pc] 34, oB w.heap.size [.int .i64 (c : Int), .int .i64 u.turner.start, .slice (some ⟨ha, hp, none⟩) n tc, .slice (some ⟨ga, gp, none⟩) n oc] 34] := by
    rw [List.append_nil]; exact S
  clear S
  go_wp2
  go_loopw [11] (fun q wr => ∃ (j : Nat), j ≤ n ∧ q = .int .i64 j ∧ Star w wr [oE strssE [.slice (some ⟨og, 0, none⟩) n lc] ((List.range j).map F ++ u.out.drop j ++ []), oB g6 [.int .i64 t.letters, .int .i64 t.start, .slice ca cn cc] 32, oE movessE [.slice ca cn cc] t.moves, oB (w.heap.size + 1 + 1) [.int .i64 0, .int .i64 0, .slice none 0 0, .slice none 0 0] 34, oB (w.heap.size + 1) [.int .i64 (c : Int), .int .i64 (St : Int), .slice ba bn bc, .slice (some ⟨fa, fp, none⟩) m pc] 34, oB w.heap.size [.int .i64 (c : Int), .int .i64 u.turner.start, .slice (some ⟨ha, hp, none⟩) n tc, .slice (some ⟨ga, gp, none⟩) n oc] 34]) (fun q _ => n - (intOf q).toNat)
  case atStart => exact ⟨0, by omega, rfl, S0⟩
  case round =>
    clear S0
    obtain ⟨j, hj, rfl, S⟩ := hrel
    by_cases hlt : j < n
    case neg =>
      obtain rfl : n = j := by omega
      rw [jmix_all F u.out [] n HNO.out, List.append_nil] at S
      have e3 := (S.blk 4 rfl).cell 3 rfl
      go_wp2_with fail
      clear e3
      refine (l07Texts_any _ v.out B _ (Nat.le_trans hB0 S.below.size) (strssE.rd_of (S.below.mono hB0) J3n.out) (by have := HM.out; omega) LENV.out).mono ?_
      rintro e w6 ⟨ve, fe, rfl, oe, ne, lo, be⟩
      obtain ⟨la, ln, lc2, rfl⟩ := ow_slice oe
      replace S := (S.made oe ne lo be).sel [1, 0, 2, 3, 4]
      clear oe ne lo be
      have hlj : ((List.range u.out.length).map F).length + v.out.length ≤ 1000000000000 := by rw [List.length_map, List.length_range]; have := HNO.out; have := HM.out; omega
      go_upto_region 15 with (at_builtin; refine stJ_StringSS S rfl rfl rfl rfl hlj ?_; intro ja jn jc w7 S7)
      clear S hlj
      obtain ⟨i9, hi, hz0, hz1, hz2⟩ := info_parts inf_StringS
      have hmk := make_run (P := Tryd.prog) Tryd.underlying47 hi hz0 hz1 (c + 2) (by rw [hz2]; omega) (by omega)
      have wc2 : IntKind.i64.wrap ((c : Int) + 2) = (c : Int) + 2 := IntWalk.i64_in _ ⟨by omega, by omega⟩
      have hc2 : ((c + 2 : Nat) : Int) = (c : Int) + 2 := by omega
      rw [hc2] at hmk
      clear hi hz0 hz1 hz2
      have SB := S7.alloc (cs := (madeCells #[Value.string ByteArray.empty] (c + 2)).setIfInBounds c (.string bo)) (ty := 9)
      have S := S7.alloc (cs := madeCells #[Value.string ByteArray.empty] (c + 2)) (ty := 9)
      have hm : (madeCells #[Value.string ByteArray.empty] (c + 2)).toList = List.replicate (c + 2) (.string ⟨#[]⟩) := made_alike (Value.cells (.string ByteArray.empty)) (.string ⟨#[]⟩) (by intro i hi; match i, hi with | 0, _ => rfl) (by decide) (c + 2)
      rw [hm] at S
      rw [Array.toList_setIfInBounds, hm] at SB
      clear S7
      have hcc : c < (List.replicate (c + 2) (Value.string ⟨#[]⟩)).length := by rw [List.length_replicate]; omega
      obtain ⟨u0, c0⟩ : ∃ y, (w7.alloc (.cells (madeCells #[Value.string ByteArray.empty] (c + 2)) 9)).cell? ⟨w7.heap.size, c, none⟩ = some y := ⟨_, (S.blk 0 rfl).cell c (List.getElem?_eq_getElem hcc)⟩
      have cf := (S.blk 0 rfl).free
      have i6 : (0 : Int) ≤ (c : Int) := by omega
      have i7 : (c : Int) < (c : Int) + 2 := by omega
      go_upto_region 17 with fail
      generalize hW : w7.alloc _ = w9 at SB ⊢
      obtain ⟨q1, hq1⟩ : ∃ g, g = w7.heap.size := ⟨_, rfl⟩
      rw [← hq1] at SB ⊢
      clear hW hq1 hmk wc2 hm c0 cf S
      have S1 := SB.lits (E := strE) ((List.replicate (c + 2) (⟨#[]⟩ : ByteArray)).set c bo) (fun x => [Value.string x]) (c + 2) (by rw [List.length_set, List.length_replicate]) (home_vals (c + 2) c bo) (home_in (c + 2) c bo (by omega) _) (by simp [maxLen]; omega)
      clear SB
      have hlm : ((List.range u.out.length).map F ++ v.out).length ≤ 1000000000000 := by
        rw [List.length_append, List.length_map, List.length_range, ← HNO.out, ← HM.out]; omega
      obtain ⟨O, hO⟩ : ∃ O, O = (List.range u.out.length).map F ++ v.out ++ [(List.replicate (c + 2) (⟨#[]⟩ : ByteArray)).set c bo] := ⟨_, rfl⟩
      have HO := Lib.hid hO
      have hX5 : x = (if writerOk ⟨t, O⟩ then (⟨t, O⟩, 0) else (default, 3)) := by
        have h9 := HJO.out
        rw [← hO] at h9
        rw [← h9]; exact HX4.out
      have HX5 := Lib.hid hX5
      clear hO hX5
      have x0 := (S1.blk 2 rfl).cell 0 rfl
      have x1 := (S1.blk 2 rfl).cell 1 rfl
      have x2 := (S1.blk 2 rfl).cell 2 rfl
      have x0a := fun o => cell_al x0 o
      have x1a := fun o => cell_al x1 o
      have x2a := fun o => cell_al x2 o
      have SC := ((S1.alloc (cs := #[.slice (some ⟨q1, 0, none⟩) (c + 2) (c + 2)]) (ty := 47)).sel [2, 1, 3, 4, 5]).drew
      cases hv : writerOk (⟨t, O⟩ : Writer)
      case false =>
        have hto : x = (default, 3) := by rw [HX5.out, hv]; rfl
        have HT := Lib.hid hto
        clear hto
        go_region_law (first
          | (with_reducible show (if _ then Oper.wp _ { dst := some 91, op := _, type := _, pos := _, after := _, guard := _ } _ _ _ _ else _)
             refine sst1z_StringSS SC rfl rfl rfl rfl (by first | exact cell_ad | exact cell_da | exact cell_a1) (one_mem rfl) hlm ?_
             intro ja jn jc w10 z10 S9
             rw [← HO.out] at S9
             have y0 := (S9.blk 1 rfl).cell 0 rfl
             have y1 := (S9.blk 1 rfl).cell 1 rfl
             have y2 := (S9.blk 1 rfl).cell 2 rfl)
          | (with_reducible show (if _ then Oper.wp _ { dst := some 93, op := _, type := _, pos := _, after := _, guard := _ } _ _ _ _ else _)
             go_simp
             go_at_call 28
             refine (told_no _ (⟨t, O⟩ : Writer) _ _ (Nat.le_refl _) (rd_writE (r := (⟨t, O⟩ : Writer)) (S9.rd 2 rfl) (S9.rd 0 rfl) i0 i1) hv).mono ?_
             rintro e w15 ⟨rfl, b⟩
             have S15 := (S9.step b).sel [3]
             have c0 := (S15.blk 0 rfl).cell 0 rfl
             have c1 := (S15.blk 0 rfl).cell 1 rfl
             have c2 := (S15.blk 0 rfl).cell 2 rfl
             have c3 := (S15.blk 0 rfl).cell 3 rfl
             have f0 := (S15.blk 0 rfl).free))
        all_goals
          go_wp2
          generalize hW : (((w15.setCell _ _).setCell _ _).setCell _ _).setCell _ _ = w16
          have S16 := S15.set4 rfl hW
          have A3 := S16.blk 0 rfl
          have q0 := A3.cell 0 rfl
          have q1' := A3.cell 1 rfl
          have q2' := A3.cell 2 rfl
          have q3 := A3.cell 3 rfl
          obtain rfl := HT.out
          exact bodyPost_ret (v := .tuple #[.agg #[.int .i64 0, .int .i64 0, .slice none 0 0, .slice none 0 0], .int .i64 3]) (by simp [results, Tryd.results10, go_sem, q0, q1', q2', q3]) rfl (S16.flat (ow_Writer_zero _)).done
      have hto : x = (⟨t, O⟩, 0) := by rw [HX5.out, hv]; rfl
      have HT := Lib.hid hto
      clear hto
      go_region_law (first
        | (with_reducible show (if _ then Oper.wp _ { dst := some 91, op := _, type := _, pos := _, after := _, guard := _ } _ _ _ _ else _)
           refine sst1z_StringSS SC rfl rfl rfl rfl (by first | exact cell_ad | exact cell_da | exact cell_a1) (one_mem rfl) hlm ?_
           intro ja jn jc w10 z10 S9
           rw [← HO.out] at S9
           have y0 := (S9.blk 1 rfl).cell 0 rfl
           have y1 := (S9.blk 1 rfl).cell 1 rfl
           have y2 := (S9.blk 1 rfl).cell 2 rfl)
        | (with_reducible show (if _ then Oper.wp _ { dst := some 93, op := _, type := _, pos := _, after := _, guard := _ } _ _ _ _ else _)
           go_simp
           go_at_call 28
           refine (told_yes _ (⟨t, O⟩ : Writer) _ _ (Nat.le_refl _) (rd_writE (r := (⟨t, O⟩ : Writer)) (S9.rd 2 rfl) (S9.rd 0 rfl) i0 i1) hv).mono ?_
           rintro e w15 ⟨rfl, b⟩
           have S15 := (S9.step b).sel [3, 2, 0]
           have c0 := (S15.blk 0 rfl).cell 0 rfl
           have c1 := (S15.blk 0 rfl).cell 1 rfl
           have c2 := (S15.blk 0 rfl).cell 2 rfl
           have c3 := (S15.blk 0 rfl).cell 3 rfl
           have f0 := (S15.blk 0 rfl).free))
      all_goals
        go_wp2
        generalize hW : (((w15.setCell _ _).setCell _ _).setCell _ _).setCell _ _ = w16
        have S16 := S15.set4 rfl hW
        have A3 := S16.blk 0 rfl
        have q0 := A3.cell 0 rfl
        have q1' := A3.cell 1 rfl
        have q2' := A3.cell 2 rfl
        have q3 := A3.cell 3 rfl
        obtain rfl := HT.out
        exact bodyPost_ret (v := .tuple #[.agg #[.int .i64 t.letters, .int .i64 t.start, .slice ca cn cc, .slice ja jn jc], .int .i64 0]) (by simp [results, Tryd.results10, go_sem, q0, q1', q2', q3]) rfl (writ_done (x := (⟨t, O⟩ : Writer)) (c := 0) (S16.sel [1, 2]) i0 i1)
    obtain ⟨vk, hrc, hrd⟩ := Q4.out j hlt
    have hjm : j < u.turner.moves.length := by rw [← HN.out]; exact hlt
    have hjo : j < u.out.length := by rw [← HNO.out]; exact hlt
    have hmem := mem_getD (l := u.turner.moves) (k := j) hjm
    have hlen := (HKU.out.t.row _ hmem).1
    obtain ⟨hro, hrs⟩ := HKU.out.row j hjo
    have hge : u.out[j]?.getD default = u.out[j] := by rw [List.getElem?_eq_getElem hjo]; rfl
    have hFj : F j = joinRow c bo (u.turner.moves[j]?.getD default) (u.out[j]?.getD default) := by rw [HF.out]
    have hmg := jmix_get F u.out [] j hjo
    have hms := jmix_set F u.out [] j hjo
    have hmn := jmix_same F u.out [] j hjo
    rw [← hge] at hmg hmn
    obtain ⟨row, hrow⟩ : ∃ y, y = u.turner.moves[j]?.getD default := ⟨_, rfl⟩
    obtain ⟨orow, horow⟩ : ∃ y, y = u.out[j]?.getD default := ⟨_, rfl⟩
    rw [← hrow] at hrd hlen hro hFj
    rw [← horow] at hro hrs hFj hmg hmn
    rw [HC.out] at hlen
    have hl2 : row.length = c + 2 := by omega
    have ho2 : orow.length = c + 2 := by omega
    obtain ⟨ma, mc, rfl, m1, m2, -, m4⟩ := rd_movesE hrd
    rw [hl2] at m1 m4 hrc
    obtain ⟨sb, so, rfl, -, ⟨hm0, hm1'⟩, -⟩ := m4 c (by omega)
    obtain ⟨M, hM⟩ : ∃ y, y = (List.range j).map F ++ u.out.drop j ++ [] := ⟨_, rfl⟩
    rw [← hM] at hmg hms hmn S
    have hmc : (row[c]?.getD default).to = (row[c]?.getD default).to := rfl
    obtain ⟨mv, hmv⟩ : ∃ y, y = row[c]?.getD default := ⟨_, rfl⟩
    rw [← hmv] at hm0 hm1'
    unfold joinRow at hFj
    rw [← hmv] at hFj
    have BW := S.below
    have z0 := (BW.cell (World.block_lt_of_cell? w _ hrc)).trans hrc
    have z1 := (BW.cell (World.block_lt_of_cell? w _ hm0)).trans hm0
    have i6 : (0 : Int) ≤ (j : Int) := by omega
    have i7 : (j : Int) < (n : Int) := by omega
    have i8 : (0 : Int) ≤ (c : Int) := by omega
    have i9 : (c : Int) < ((c + 2 : Nat) : Int) := by omega
    have HFJ := Lib.hid hFj; have HMG := Lib.hid hmg; have HMS := Lib.hid hms; have HMN := Lib.hid hmn; have HO2 := Lib.hid ho2; have HRS := Lib.hid hrs
    clear hrc hrd hmem hlen hro hrs hge hFj hmg hms hmn hrow horow hl2 ho2 m4 hm0 hm1' hM hmc hmv BW hjm
    have d2 := (S.blk 5 rfl).cell 2 rfl
    by_cases hto : mv.to = -1
    case neg =>
      have tB : (mv.to == -1) = false := by simpa using hto
      have hs := HMN.out (by have := HFJ.out; rwa [if_neg hto] at this)
      have HSA := Lib.hid hs
      clear hs
      go_wp2
      go_roundw
      case rel => exact ⟨j + 1, by omega, by go_num, by rw [HSA.out]; exact S⟩
      case measure => simp [intOf]; omega
    have tB : (mv.to == -1) = true := by simpa using hto
    have hFj2 : F j = orow.set c ((orow[c]?.getD ByteArray.empty) ++ bo) := by have := HFJ.out; rwa [if_pos hto] at this
    have hoc : c < orow.length := by rw [HO2.out]; omega
    have hog : orow[c]? = some (orow[c]?.getD ByteArray.empty) := by rw [List.getElem?_eq_getElem hoc]; rfl
    have hos := outOk_size (HRS.out _ (List.mem_of_getElem? hog))
    obtain ⟨ys, hys⟩ : ∃ y, y = orow[c]?.getD ByteArray.empty := ⟨_, rfl⟩
    rw [← hys] at hFj2 hog hos
    clear hys
    obtain ⟨og', oc', hv, -, -, -, n4⟩ := S.rows 0 rfl (by have := HMG.out; cases M with | nil => simp at this | cons a l => simp)
    simp only [Value.slice.injEq, Option.some.injEq, Addr.mk.injEq, and_true] at hv
    obtain ⟨rfl, -, rfl⟩ := hv
    obtain ⟨rb, rc, r1, r2, -, rf, r5⟩ := n4 j orow HMG.out (by rw [HO2.out]; omega)
    rw [HO2.out] at r1 r2
    obtain ⟨zs, s1, s2⟩ := r5 c ys hog
    obtain ⟨hz, -⟩ := s1
    obtain rfl : zs = [.string ys] := hz
    have y0 : wr.cell? ⟨rb, c, none⟩ = some (.string ys) := by have := s2 0 _ rfl; simpa [strE] using this
    have hsz : (ys ++ bo).size ≤ maxLen := by rw [ByteArray.size_append]; unfold maxLen; omega
    have HFJ2 := Lib.hid hFj2
    have HSZ := Lib.hid hsz
    clear n4 r5 s2 hog hFj2 hoc hsz
    go_wp2
    have SM := S.setStr j orow HMG.out r1 c (ys ++ bo) HSZ.out
    rw [← HFJ2.out, HMS.out] at SM
    go_roundw
    case rel => exact ⟨j + 1, by omega, by go_num, SM⟩
    case measure => simp [intOf]; omega

end Go.Proofs.YtnkhgfdlehhjmaaDoor
