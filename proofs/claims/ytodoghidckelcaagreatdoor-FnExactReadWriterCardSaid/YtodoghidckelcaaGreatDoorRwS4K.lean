/-
  A turner read by the reference.
-/
import Derived.Test.YtodoghidckelcaaGreatDoorRwS3K
import Derived.Test.YtodoghidckelcaaGreatDoorSpecWritOkK
namespace Go.Proofs.YtodoghidckelcaaGreatDoor
open Go.RowKit Go.PlainAid

theorem strs_at {w0 w : World} {ps : List Ob} (S : Star w0 w ps) (n : Nat) {b o jn jc : Nat} {l : List (List UInt8)} (h : ps[n]? = some (oE strsE [.slice (some ⟨b, o, none⟩) jn jc] (l.map mkB))) (k : Nat) (hk : k < l.length) : w.cell? ⟨b, o + k, none⟩ = some (.string (mkB (l.getD k []))) := by
  obtain ⟨jb, jo, jn', jc', e, -, -, hc⟩ := strs_cellsR (S.rd n h) (by rw [List.length_map]; omega)
  simp only [Value.slice.injEq, Option.some.injEq, Addr.mk.injEq] at e
  obtain ⟨⟨rfl, rfl, -⟩, rfl, rfl⟩ := e
  rw [hc k (by rw [List.length_map]; exact hk), getD_map l k hk]

theorem strs_slc {w0 w : World} {ps : List Ob} (S : Star w0 w ps) (n : Nat) {v : Value} {l : List (List UInt8)} (h : ps[n]? = some (oE strsE [v] (l.map mkB))) (h0 : 0 < l.length) : ∃ b o jn jc, v = .slice (some ⟨b, o, none⟩) jn jc ∧ jn = l.length := by
  obtain ⟨jb, jo, jn', jc', e, e2, -, hc⟩ := strs_cellsR (S.rd n h) (by rw [List.length_map]; omega)
  rw [List.length_map] at e2
  exact ⟨jb, jo, jn', jc', e, e2⟩

theorem ints_at {w0 w : World} {ps : List Ob} (S : Star w0 w ps) (n : Nat) {b o jn jc : Nat} {l : List Int} (h : ps[n]? = some (oE intsE [.slice (some ⟨b, o, none⟩) jn jc] l)) (k : Nat) (hk : k < l.length) : w.cell? ⟨b, o + k, none⟩ = some (.int .i64 (l.getD k 0)) := by
  obtain ⟨a, cap, e, h1, h2, h3, h4⟩ := rd_ints (S.rd n h)
  simp only [Value.slice.injEq] at e
  obtain ⟨rfl, -, -⟩ := e
  obtain ⟨b2, o2, e2, -, hc, -, -⟩ := h4 k hk
  simp only [Option.some.injEq, Addr.mk.injEq] at e2
  obtain ⟨rfl, rfl, -⟩ := e2
  rw [List.getD_eq_getElem?_getD]
  exact hc

theorem ints_slc {w0 w : World} {ps : List Ob} (S : Star w0 w ps) (n : Nat) {v : Value} {l : List Int} (h : ps[n]? = some (oE intsE [v] l)) : ∃ a jn jc, v = .slice a jn jc ∧ jn = l.length ∧ (0 < jn → ∃ b o, a = some ⟨b, o, none⟩) := by
  obtain ⟨a, cap, e, h1, h2, h3, h4⟩ := rd_ints (S.rd n h)
  refine ⟨a, _, cap, e, rfl, fun h0 => ?_⟩
  obtain ⟨b, o, e2, -⟩ := h4 0 h0
  exact ⟨b, o, e2⟩

theorem num9_lt (l : List UInt8) : num9 l < 1000000000 := by
  by_cases h : num9 l = -1
  · omega
  · obtain ⟨n, h1, h2⟩ := num9_dec l h
    have hl : l.length ≤ 9 := by
      by_cases h9 : 9 < l.length
      · exfalso
        apply h
        unfold num9
        rw [if_neg (by omega), if_pos h9]
      · omega
    rw [h1]
    have hb : ∀ (k m : Nat), (Lib.decDigits m).length ≤ k → m < 10 ^ k := by
      intro k
      induction k with
      | zero =>
        intro m hm
        rw [Lib.decDigits] at hm
        split at hm
        · simp at hm
        · simp at hm
      | succ k ih =>
        intro m hm
        rw [Lib.decDigits] at hm
        split at hm
        · rename_i h10
          have : 1 ≤ 10 ^ k := Nat.one_le_pow _ _ (by decide)
          rw [Nat.pow_succ]; omega
        · rw [List.length_append, List.length_singleton] at hm
          have := ih (m / 10) (by omega)
          rw [Nat.pow_succ]; omega
    have := hb 9 n (by rw [h2]; exact hl)
    omega

theorem readSM_range (u : List UInt8) : (-9223372036854775808 ≤ (readSM u).1.to ∧ (readSM u).1.to ≤ 9223372036854775807) ∧ (-9223372036854775808 ≤ (readSM u).1.dir ∧ (readSM u).1.dir ≤ 9223372036854775807) := by
  unfold readSM
  have h1 := v9_range (u.take (u.length - 1))
  unfold v9 at h1
  split
  · decide
  · split
    · decide
    · split
      · decide
      · refine ⟨by simp only; omega, ?_⟩
        simp only [dirS]
        split
        · decide
        · split <;> decide

set_option maxHeartbeats 8000000 in
set_option maxRecDepth 100000 in
theorem specReadTurner_any (s : List UInt8) (w : World) (hs : s.length ≤ 1048576) :
    Calls Tryz.prog 10 #[.string (mkB s)] w (MakesC turnE (readT s) w) := by
  have S := (Star.nil w).alloc (cs := #[.int .i64 0, .int .i64 0, .slice none 0 0]) (ty := 24)
  obtain ⟨RES, hRES⟩ : ∃ x, x = readT s := ⟨_, rfl⟩
  obtain ⟨T, hTT⟩ : ∃ T, T = mkB s := ⟨_, rfl⟩
  by_cases hbig : 20000 < s.length
  · have hr : readT s = (noTurn, 2) := by unfold readT; rw [if_pos hbig]
    rw [← hRES] at hr ⊢
    have HRES2 := Lib.hid hr
    rw [← hTT]
    have t1 : (20000 : Int) < (T.size : Int) := by rw [hTT, mkB_size]; omega
    clear hr hTT hbig hs hRES
    go_enter Tryz.func10, Tryz.ntmps10
    go_upto_region 1 with fail
    generalize hW : w.alloc _ = w0 at S ⊢
    clear hW
    obtain ⟨g2, hg⟩ : ∃ g, g = w.heap.size := ⟨_, rfl⟩
    rw [← hg] at S ⊢
    clear hg
    have z0 := (S.blk 0 rfl).cell 0 rfl
    have z1 := (S.blk 0 rfl).cell 1 rfl
    have z2 := (S.blk 0 rfl).cell 2 rfl
    have zf := (S.blk 0 rfl).free
    go_wp2
    generalize hW : ((World.setCell _ _ _).setCell _ _).setCell _ _ = w20
    have S9 : Star w w20 [oB g2 [.int .i64 0, .int .i64 0, .slice none 0 0] 24] := hW ▸ (((S.sel [0]).set 0 _).set 1 _).set 2 _
    have q0 := (S9.blk 0 rfl).cell 0 rfl
    have q1 := (S9.blk 0 rfl).cell 1 rfl
    have q2 := (S9.blk 0 rfl).cell 2 rfl
    exact bodyPost_ret (v := .tuple #[.agg #[.int .i64 0, .int .i64 0, .slice none 0 0], .int .i64 2]) (by simp [results, Tryz.results10, go_sem, q0, q1, q2]) rfl (by rw [HRES2.out]; exact (S9.flat (ow_noTurn _)).done)
  have h20 : s.length ≤ 20000 := by omega
  have HNO := Lib.hid (fun h => show RES = (noTurn, 5) from hRES.trans (read_no h20 h))
  have HYES := Lib.hid (fun H R V => show RES = (turS s, 0) from hRES.trans (read_yes h20 H R V))
  have HSL := Lib.hid (fun w' => l01Split_any 10 10 rfl s w' hs)
  have hl0 : 0 < (splitL 10 s).length := List.length_pos_iff.2 (splitL_ne 10 s)
  have hll := splitL_len 10 s
  have hle : ∀ x, x ∈ splitL 10 s → x.length ≤ 1048576 := fun x hx => by have := splitL_le 10 s x hx; omega
  have HLE := Lib.hid hle
  have HS0 := Lib.hid (fun w' => l01Split_any 32 32 rfl ((splitL 10 s).getD 0 []) w' (hle _ (getD_mem hl0)))
  have hh0 : 0 < (hdS s).length := List.length_pos_iff.2 (splitL_ne 32 _)
  have hhl : (hdS s).length ≤ 30000 := by
    have h1 := splitL_len 32 ((splitL 10 s).getD 0 [])
    have h2 := splitL_le 10 s _ (getD_mem hl0)
    show (splitL 32 ((splitL 10 s).getD 0 [])).length ≤ 30000
    omega
  have hhe : ∀ x, x ∈ hdS s → x.length ≤ 1048576 := fun x hx => by
    have h1 := splitL_le 32 ((splitL 10 s).getD 0 []) x hx
    have h2 := hle _ (getD_mem hl0)
    omega
  have HNM := Lib.hid (fun v B w' h hB => l01Numbers_any v (hdS s) B w' h hB hh0 (by omega) hhe)
  rw [show splitL 32 ((splitL 10 s).getD 0 []) = hdS s from rfl] at HS0
  have t1 : ¬ (20000 : Int) < (T.size : Int) := by rw [hTT, mkB_size]; omega
  rw [← hTT] at HSL ⊢
  rw [← hRES]
  have hlb : (splitL 10 s).length ≤ 20001 := by omega
  obtain ⟨X0, hX0⟩ : ∃ x, x = mkB ((splitL 10 s).getD 0 []) := ⟨_, rfl⟩
  rw [← hX0] at HS0
  have HX0 := Lib.hid hX0
  have HH0 := Lib.hid hh0; have HL0 := Lib.hid hl0; have HLB := Lib.hid hlb
  clear hs hbig hRES hTT hll hle hhl hhe h20 hX0 hh0 hl0 hlb
  go_enter Tryz.func10, Tryz.ntmps10
  go_upto_region 1 with fail
  generalize hW : w.alloc _ = w0 at S ⊢
  clear hW
  obtain ⟨g2, hg⟩ : ∃ g, g = w.heap.size := ⟨_, rfl⟩
  rw [← hg] at S ⊢
  clear hg
  go_wp2_with fail
  refine (HSL.out w0).mono ?_
  rintro e w1 ⟨v1, f1, rfl, o1, nd1, lo1, b1⟩
  replace S := S.made o1 nd1 lo1 b1
  clear o1 nd1 lo1 b1 HSL
  obtain ⟨lb, lo, ln, lc, rfl, hln⟩ := strs_slc S 0 rfl HL0.out
  have x0 := strs_at S 0 rfl 0 HL0.out
  rw [← HX0.out, Nat.add_zero] at x0
  have HLN := Lib.hid hln
  have l0 : (0 : Int) < (ln : Int) := by have := HL0.out; omega
  have l0n : 0 < ln := by have := HL0.out; omega
  have hlnb : ln ≤ 20001 := by have := HLB.out; omega
  clear hln
  go_wp2_with fail
  clear x0
  refine (HS0.out w1).mono ?_
  rintro e w2 ⟨v2, f2, rfl, o2, nd2, lo2, b2⟩
  replace S := S.made o2 nd2 lo2 b2
  clear o2 nd2 lo2 b2 HS0
  obtain ⟨hb, ho, hn, hc, rfl, hhn⟩ := strs_slc S 0 rfl HH0.out
  have HHN := Lib.hid hhn
  have hn0 : (0 : Int) < (hn : Int) := by have := HH0.out; omega
  have hn0n : 0 < hn := by have := HH0.out; omega
  clear hhn
  go_wp2_with fail
  refine (HNM.out _ _ w2 (S.rd 0 rfl) (Nat.le_refl _)).mono ?_
  rintro e w3 ⟨v3, L, rb, rfl, HRB, HLL, SN⟩
  replace S := S.mergeR SN
  clear SN HNM
  obtain ⟨na, nn, nc, rfl, hnn, hnz⟩ := ints_slc S 0 rfl
  have HNZ := Lib.hid hnz
  have HNN := Lib.hid hnn
  clear hnn hnz
  go_upto_region 6 with fail
  cases rb with
  | false =>
    have hr := HNO.out (fun h => by have := HRB.out.2 h.1.n; cases this)
    have HR := Lib.hid hr
    clear hr HNO HYES HRB HLL
    have z0 := (S.blk 3 rfl).cell 0 rfl
    have z1 := (S.blk 3 rfl).cell 1 rfl
    have z2 := (S.blk 3 rfl).cell 2 rfl
    have zf := (S.blk 3 rfl).free
    go_wp2
    generalize hW : ((World.setCell _ _ _).setCell _ _).setCell _ _ = w20
    have S9 : Star w w20 [oB g2 [.int .i64 0, .int .i64 0, .slice none 0 0] 24] := hW ▸ (((S.sel [3]).set 0 _).set 1 _).set 2 _
    have q0 := (S9.blk 0 rfl).cell 0 rfl
    have q1 := (S9.blk 0 rfl).cell 1 rfl
    have q2 := (S9.blk 0 rfl).cell 2 rfl
    exact bodyPost_ret (v := .tuple #[.agg #[.int .i64 0, .int .i64 0, .slice none 0 0], .int .i64 5]) (by simp [results, Tryz.results10, go_sem, q0, q1, q2]) rfl (by rw [HR.out]; exact (S9.flat (ow_noTurn _)).done)
  | true =>
  have hL := HLL.out rfl
  have hgood := HRB.out.1 rfl
  subst hL
  have HGD := Lib.hid hgood
  clear hgood HRB HLL
  have y0 := strs_at S 1 rfl 0 HH0.out
  obtain ⟨Y0, hY0⟩ : ∃ y, y = mkB ((hdS s).getD 0 []) := ⟨_, rfl⟩
  rw [← hY0, Nat.add_zero] at y0
  by_cases c2 : (hdS s).getD 0 [] = turnerW
  case neg =>
    have hr := HNO.out (fun h => c2 h.1.w)
    have HR := Lib.hid hr
    have tW : (Y0.toList == [116, 117, 114, 110, 101, 114]) = false := by rw [hY0, mkB_toList, beq_eq_false_iff_ne]; exact c2
    clear hr HNO HYES c2 hY0
    have z0 := (S.blk 3 rfl).cell 0 rfl
    have z1 := (S.blk 3 rfl).cell 1 rfl
    have z2 := (S.blk 3 rfl).cell 2 rfl
    have zf := (S.blk 3 rfl).free
    go_wp2
    generalize hW : ((World.setCell _ _ _).setCell _ _).setCell _ _ = w20
    have S9 : Star w w20 [oB g2 [.int .i64 0, .int .i64 0, .slice none 0 0] 24] := hW ▸ (((S.sel [3]).set 0 _).set 1 _).set 2 _
    have q0 := (S9.blk 0 rfl).cell 0 rfl
    have q1 := (S9.blk 0 rfl).cell 1 rfl
    have q2 := (S9.blk 0 rfl).cell 2 rfl
    exact bodyPost_ret (v := .tuple #[.agg #[.int .i64 0, .int .i64 0, .slice none 0 0], .int .i64 5]) (by simp [results, Tryz.results10, go_sem, q0, q1, q2]) rfl (by rw [HR.out]; exact (S9.flat (ow_noTurn _)).done)
  have tW : (Y0.toList == [116, 117, 114, 110, 101, 114]) = true := by rw [hY0, mkB_toList, c2]; rfl
  have C2 := Lib.hid c2
  clear c2 hY0
  have hnl : nn = ((hdS s).drop 1).length := by rw [HNN.out, List.length_map]
  by_cases c3 : nn = 3
  case neg =>
    have hr := HNO.out (fun h => c3 (by rw [hnl]; exact h.1.l))
    have HR := Lib.hid hr
    have tL : ((nn : Int) == 3) = false := by rw [beq_eq_false_iff_ne]; omega
    clear hr HNO HYES hnl
    have z0 := (S.blk 3 rfl).cell 0 rfl
    have z1 := (S.blk 3 rfl).cell 1 rfl
    have z2 := (S.blk 3 rfl).cell 2 rfl
    have zf := (S.blk 3 rfl).free
    go_wp2
    generalize hW : ((World.setCell _ _ _).setCell _ _).setCell _ _ = w20
    have S9 : Star w w20 [oB g2 [.int .i64 0, .int .i64 0, .slice none 0 0] 24] := hW ▸ (((S.sel [3]).set 0 _).set 1 _).set 2 _
    have q0 := (S9.blk 0 rfl).cell 0 rfl
    have q1 := (S9.blk 0 rfl).cell 1 rfl
    have q2 := (S9.blk 0 rfl).cell 2 rfl
    exact bodyPost_ret (v := .tuple #[.agg #[.int .i64 0, .int .i64 0, .slice none 0 0], .int .i64 5]) (by simp [results, Tryz.results10, go_sem, q0, q1, q2]) rfl (by rw [HR.out]; exact (S9.flat (ow_noTurn _)).done)
  subst c3
  have HNL := Lib.hid hnl
  have hh4 : (hdS s).length = 4 := by have := hnl; rw [List.length_drop] at this; omega
  clear hnl
  obtain ⟨nb, no, hna⟩ := HNZ.out (by decide)
  subst hna
  obtain ⟨p, hp⟩ : ∃ p, p + 1 = ln := ⟨ln - 1, by omega⟩
  have wp : IntKind.i64.wrap ((ln : Int) - 1) = (p : Int) := by rw [IntWalk.i64_in _ ⟨by omega, by omega⟩]; omega
  have p0 : (0 : Int) ≤ (p : Int) := by omega
  have p1 : (p : Int) < (ln : Int) := by omega
  have pn : p < ln := by omega
  have y1 := strs_at S 2 rfl p (by rw [← HLN.out]; exact pn)
  obtain ⟨Y1, hY1⟩ : ∃ y, y = mkB ((splitL 10 s).getD p []) := ⟨_, rfl⟩
  rw [← hY1] at y1
  have hpe : (splitL 10 s).length - 1 = p := by rw [← HLN.out]; omega
  by_cases c4 : (splitL 10 s).getD p [] = []
  case neg =>
    have hr := HNO.out (fun h => c4 (by have := h.1.e; rwa [hpe] at this))
    have HR := Lib.hid hr
    have tE : (Y1.toList == []) = false := by rw [hY1, mkB_toList, beq_eq_false_iff_ne]; exact c4
    clear hr HNO HYES hY1 hpe c4
    have z0 := (S.blk 3 rfl).cell 0 rfl
    have z1 := (S.blk 3 rfl).cell 1 rfl
    have z2 := (S.blk 3 rfl).cell 2 rfl
    have zf := (S.blk 3 rfl).free
    go_wp2
    generalize hW : ((World.setCell _ _ _).setCell _ _).setCell _ _ = w20
    have S9 : Star w w20 [oB g2 [.int .i64 0, .int .i64 0, .slice none 0 0] 24] := hW ▸ (((S.sel [3]).set 0 _).set 1 _).set 2 _
    have q0 := (S9.blk 0 rfl).cell 0 rfl
    have q1 := (S9.blk 0 rfl).cell 1 rfl
    have q2 := (S9.blk 0 rfl).cell 2 rfl
    exact bodyPost_ret (v := .tuple #[.agg #[.int .i64 0, .int .i64 0, .slice none 0 0], .int .i64 5]) (by simp [results, Tryz.results10, go_sem, q0, q1, q2]) rfl (by rw [HR.out]; exact (S9.flat (ow_noTurn _)).done)
  have tE : (Y1.toList == []) = true := by rw [hY1, mkB_toList, c4]; rfl
  have C4 := Lib.hid (show (splitL 10 s).getD ((splitL 10 s).length - 1) [] = [] by rw [hpe]; exact c4)
  clear c4 hY1 hpe
  have e1 : (((hdS s).drop 1).map num9).getD 0 0 = num9 ((hdS s).getD 1 []) := by
    generalize hdS s = l at hh4 ⊢
    match l, hh4 with
    | [a, b, c, d], _ => rfl
  have e2 : (((hdS s).drop 1).map num9).getD 1 0 = num9 ((hdS s).getD 2 []) := by
    generalize hdS s = l at hh4 ⊢
    match l, hh4 with
    | [a, b, c, d], _ => rfl
  have e3 : (((hdS s).drop 1).map num9).getD 2 0 = num9 ((hdS s).getD 3 []) := by
    generalize hdS s = l at hh4 ⊢
    match l, hh4 with
    | [a, b, c, d], _ => rfl
  have i0 := ints_at S 0 rfl 0 (by rw [List.length_map, ← HNL.out]; decide)
  have i1 := ints_at S 0 rfl 1 (by rw [List.length_map, ← HNL.out]; decide)
  have i2 := ints_at S 0 rfl 2 (by rw [List.length_map, ← HNL.out]; decide)
  rw [e1, Nat.add_zero] at i0
  rw [e2] at i1
  rw [e3] at i2
  have g1 := HGD.out ((hdS s).getD 1 []) (by
    generalize hdS s = l at hh4 ⊢
    match l, hh4 with
    | [a, b, c, d], _ => show b ∈ [b, c, d]; simp)
  have g2' := HGD.out ((hdS s).getD 2 []) (by
    generalize hdS s = l at hh4 ⊢
    match l, hh4 with
    | [a, b, c, d], _ => show c ∈ [b, c, d]; simp)
  have g3 := HGD.out ((hdS s).getD 3 []) (by
    generalize hdS s = l at hh4 ⊢
    match l, hh4 with
    | [a, b, c, d], _ => show d ∈ [b, c, d]; simp)
  have r1 := num9_lt ((hdS s).getD 1 []); have r2 := num9_lt ((hdS s).getD 2 []); have r3 := num9_lt ((hdS s).getD 3 [])
  obtain ⟨m1, q1, -⟩ := num9_dec _ g1
  obtain ⟨m2, q2, -⟩ := num9_dec _ g2'
  obtain ⟨m3, q3, -⟩ := num9_dec _ g3
  obtain ⟨N1, hN1⟩ : ∃ n, n = num9 ((hdS s).getD 1 []) := ⟨_, rfl⟩
  obtain ⟨N2, hN2⟩ : ∃ n, n = num9 ((hdS s).getD 2 []) := ⟨_, rfl⟩
  obtain ⟨N3, hN3⟩ : ∃ n, n = num9 ((hdS s).getD 3 []) := ⟨_, rfl⟩
  rw [← hN1] at i0 r1 q1
  rw [← hN2] at i1 r2 q2
  rw [← hN3] at i2 r3 q3
  have wN : IntKind.i64.wrap (N2 + 2) = N2 + 2 := IntWalk.i64_in _ ⟨by omega, by omega⟩
  by_cases c5 : (ln : Int) = N2 + 2
  case neg =>
    have hr := HNO.out (fun h => c5 (by rw [hN2, HLN.out]; exact h.1.k))
    have HR := Lib.hid hr
    have tK : ((ln : Int) == N2 + 2) = false := beq_eq_false_iff_ne.2 c5
    clear hr HNO HYES hN1 hN2 hN3 e1 e2 e3 g1 g2' g3 q1 q2 q3 c5 hp hh4
    have z0 := (S.blk 3 rfl).cell 0 rfl
    have z1 := (S.blk 3 rfl).cell 1 rfl
    have z2 := (S.blk 3 rfl).cell 2 rfl
    have zf := (S.blk 3 rfl).free
    go_wp2
    generalize hW : ((World.setCell _ _ _).setCell _ _).setCell _ _ = w20
    have S9 : Star w w20 [oB g2 [.int .i64 0, .int .i64 0, .slice none 0 0] 24] := hW ▸ (((S.sel [3]).set 0 _).set 1 _).set 2 _
    have q0 := (S9.blk 0 rfl).cell 0 rfl
    have q1 := (S9.blk 0 rfl).cell 1 rfl
    have q2 := (S9.blk 0 rfl).cell 2 rfl
    exact bodyPost_ret (v := .tuple #[.agg #[.int .i64 0, .int .i64 0, .slice none 0 0], .int .i64 5]) (by simp [results, Tryz.results10, go_sem, q0, q1, q2]) rfl (by rw [HR.out]; exact (S9.flat (ow_noTurn _)).done)
  have tK : ((ln : Int) == N2 + 2) = true := beq_iff_eq.2 c5
  have HGH := Lib.hid (show GoodH s from ⟨HGD.out, C2.out, HNL.out.symm, C4.out, by rw [← HLN.out, ← hN2]; exact c5⟩)
  have hln2 : 2 ≤ ln := by omega
  have rr1 : -9223372036854775808 ≤ N1 ∧ N1 ≤ 9223372036854775807 := by omega
  have rr3 : -9223372036854775808 ≤ N3 ∧ N3 ≤ 9223372036854775807 := by omega
  have htu : turS s = ⟨N1, N3, (((splitL 10 s).drop 1).take (ln - 2)).map rowM⟩ := by unfold turS; rw [hN1, hN3, HLN.out]
  have HTU := Lib.hid htu
  have l02 : (0 : Int) < 3 := by decide
  clear hN1 hN2 hN3 e1 e2 e3 g1 g2' g3 q1 q2 q3 c5 hp hh4 htu C2 C4 HNL HGD HNZ HNN
  go_upto_region 8 with fail
  refine wp_region_m 9 (by kernel_rfl) rfl ?_
  intro w4 b4
  replace i0 := (b4.cell (World.block_lt_of_cell? _ _ i0)).trans i0
  replace i2 := (b4.cell (World.block_lt_of_cell? _ _ i2)).trans i2
  have gl := World.block_lt_of_cell? _ _ i0
  have hov := cell_over w4
  replace S := S.step b4
  clear b4 i1 y0 y1
  refine wpM_read 0 rfl rfl (by kernel_rfl) (fun _ d _ _ _ h => by cases d <;> exact h) ?_
  go_big_quiet_step (fail)
  refine wpQuiet_nil ?_
  refine wpM_read 1 rfl rfl (by kernel_rfl) (fun _ d _ _ _ h => by cases d <;> exact h) ?_
  go_big_quiet_step (fail)
  refine wpQuiet_nil ?_
  refine wpM_read 2 rfl rfl (by kernel_rfl) (fun _ d _ _ _ h => by cases d <;> exact h) ?_
  go_big_quiet_step (fail)
  refine wpQuiet_nil ?_
  refine wpM_read 3 rfl rfl (by kernel_rfl) (fun _ d _ _ _ h => by cases d <;> exact h) ?_
  go_big_quiet_step (fail)
  refine wpQuiet_nil ?_
  refine wpM_read 4 rfl rfl (by kernel_rfl) (fun _ d _ _ _ h => by cases d <;> exact h) ?_
  go_big_quiet_step (fail)
  refine wpQuiet_nil ?_
  refine wpM_read 5 rfl rfl (by kernel_rfl) (fun _ d _ _ _ h => by cases d <;> exact h) ?_
  go_big_quiet_step (fail)
  refine wpQuiet_nil ?_
  refine wpM_read 6 rfl rfl (by kernel_rfl) (fun _ d _ _ _ h => by cases d <;> exact h) ?_
  go_big_quiet_step (fail)
  refine wpQuiet_nil ?_
  clear i0 i2 gl hov
  refine wpM_ready [7] (by kernel_rfl) (by decide) (AllM.cons rfl (fun w5 b5 K hK => ?_) AllM.nil)
  go_simp
  have b7a : le w5 (w5.alloc (.cells #[.int .i64 0, .int .i64 0, .slice none 0 0] 24)) := (Below.refl _ _).alloc (Nat.le_refl _) _
  refine hK _ _ (.inr b7a) ?_
  clear hK K b7a
  replace S := (S.step b5).alloc (cs := #[.int .i64 0, .int .i64 0, .slice none 0 0]) (ty := 24)
  generalize hW2 : w5.alloc _ = w6 at S ⊢
  clear hW2 b5
  obtain ⟨gb, hgb⟩ : ∃ g, g = w5.heap.size := ⟨_, rfl⟩
  rw [← hgb] at S ⊢
  clear hgb
  refine wpM_ready [8] (by kernel_rfl) (by decide) (AllM.cons rfl (fun w7 b7 K hK => ?_) AllM.nil)
  replace S := S.step b7
  clear b7
  have D := S.blk 0 rfl
  have a0 := D.cell 0 rfl
  have a1 := D.cell 1 rfl
  have a2 := D.cell 2 rfl
  have af := D.free
  clear D
  go_simp
  refine hK _ _ (.inl (closes_of (by kernel_rfl))) ?_
  clear hK K
  refine wpM_done (by kernel_rfl) (fun w8 b8 => ?_)
  generalize hW3 : ((w7.setCell _ _).setCell _ _).setCell _ _ = w9 at b8
  have S7 : Star w w9 [oB gb [.int .i64 N1, .int .i64 N3, .slice none 0 0] 24, oE strsE [.slice (some ⟨lb, lo, none⟩) ln lc] ((splitL 10 s).map mkB), oB g2 [.int .i64 0, .int .i64 0, .slice none 0 0] 24] := by rw [← hW3]; exact (((S.sel [0, 3, 4]).set 0 _).set 1 _).set 2 _
  replace S := ((S7.step b8).nils movesE 52).sel [1, 0, 2, 3]
  clear b8 hW3 a0 a1 a2 af S7 tW tE tK wN wp p0 p1 l02 l0 l0n hn0 hn0n
  go_wp2
  go_loopw [7, 9] (fun vg vi wr => ∃ (i : Nat) (v : Value), 1 ≤ i ∧ i + 1 ≤ ln ∧ vg = .bool true ∧ vi = .int .i64 i ∧ Hid (∀ k, k + 1 < i → rowOkS ((splitL 10 s).getD (k + 1) []) = true) ∧ Star w wr [oB gb [.int .i64 N1, .int .i64 N3, v] 24, oE movessE [v] ((((splitL 10 s).drop 1).take (i - 1)).map rowM), oE strsE [.slice (some ⟨lb, lo, none⟩) ln lc] ((splitL 10 s).map mkB), oB g2 [.int .i64 0, .int .i64 0, .slice none 0 0] 24]) (fun _ vi _ => ln - (intOf vi).toNat)
  case atStart => exact ⟨1, _, by omega, by omega, rfl, rfl, Lib.hid (fun k hk => by omega), S⟩
  case round =>
    clear S
    obtain ⟨i, v, hi1, hil, rfl, rfl, HR0, S⟩ := hrel
    obtain ⟨va, vn, vc, rfl⟩ := S.slc 1 rfl
    have wi : IntKind.i64.wrap ((i : Int) + 1) = (i : Int) + 1 := IntWalk.i64_in _ ⟨by omega, by omega⟩
    by_cases hlt : i + 1 < ln
    case neg =>
      have hie : i - 1 = ln - 2 := by omega
      have t9 : ¬ (i : Int) + 1 < (ln : Int) := by omega
      have HGR := Lib.hid (show GoodR s from fun k hk => HR0.out k (by rw [← HLN.out] at hk; omega))
      rw [hie] at S
      have htu2 : turS s = ⟨N1, N3, (((splitL 10 s).drop 1).take (ln - 2)).map rowM⟩ := HTU.out
      have hmv : (turS s).moves = (((splitL 10 s).drop 1).take (ln - 2)).map rowM := by rw [htu2]
      have hl1 : (turS s).letters = N1 := by rw [htu2]
      have hs1 : (turS s).start = N3 := by rw [htu2]
      rw [← hmv] at S
      rw [← hl1] at rr1
      rw [← hs1] at rr3
      rw [← hl1, ← hs1] at S ⊢
      have HOK := Lib.hid (fun b (hb : validTurn (turS s) = b) => l02Ok_is b _ (turS s) wr.heap.size gb wr (S.blk 0 rfl).hd (S.rd 1 rfl) hb)
      clear htu2 hmv hl1 hs1 hie wi hlt HR0
      cases hv : validTurn (turS s) with
      | false =>
        have hr := HNO.out (fun h => by rw [hv] at h; cases h.2.2)
        have HR := Lib.hid hr
        have HOK2 := Lib.hid (HOK.out false hv)
        clear hr hv HOK
        go_wp2_with fail
        refine HOK2.out.mono ?_
        rintro e w12 ⟨rfl, b12⟩
        replace S := S.step b12
        clear b12 HOK2
        have z0 := (S.blk 3 rfl).cell 0 rfl
        have z1 := (S.blk 3 rfl).cell 1 rfl
        have z2 := (S.blk 3 rfl).cell 2 rfl
        have zf := (S.blk 3 rfl).free
        go_wp2
        generalize hW : ((World.setCell _ _ _).setCell _ _).setCell _ _ = w20
        have S9 : Star w w20 [oB g2 [.int .i64 0, .int .i64 0, .slice none 0 0] 24] := hW ▸ (((S.sel [3]).set 0 _).set 1 _).set 2 _
        have q0 := (S9.blk 0 rfl).cell 0 rfl
        have q1 := (S9.blk 0 rfl).cell 1 rfl
        have q2 := (S9.blk 0 rfl).cell 2 rfl
        exact bodyPost_ret (v := .tuple #[.agg #[.int .i64 0, .int .i64 0, .slice none 0 0], .int .i64 5]) (by simp [results, Tryz.results10, go_sem, q0, q1, q2]) rfl (by rw [HR.out]; exact (S9.flat (ow_noTurn _)).done)
      | true =>
        have hr := HYES.out HGH.out HGR.out hv
        have HR := Lib.hid hr
        have HOK2 := Lib.hid (HOK.out true hv)
        clear hr hv HOK
        go_wp2_with fail
        refine HOK2.out.mono ?_
        rintro e w12 ⟨rfl, b12⟩
        replace S := S.step b12
        clear b12 HOK2
        have f0 := (S.blk 0 rfl).cell 0 rfl
        have f1 := (S.blk 0 rfl).cell 1 rfl
        have f2 := (S.blk 0 rfl).cell 2 rfl
        have z0 := (S.blk 3 rfl).cell 0 rfl
        have z1 := (S.blk 3 rfl).cell 1 rfl
        have z2 := (S.blk 3 rfl).cell 2 rfl
        have zf := (S.blk 3 rfl).free
        go_wp2
        generalize hW : ((World.setCell _ _ _).setCell _ _).setCell _ _ = w20
        have S9 : Star w w20 [oB g2 [.int .i64 (turS s).letters, .int .i64 (turS s).start, .slice va vn vc] 24, oE movessE [.slice va vn vc] (turS s).moves] := hW ▸ (((S.sel [3, 1]).set 0 _).set 1 _).set 2 _
        have q0 := (S9.blk 0 rfl).cell 0 rfl
        have q1 := (S9.blk 0 rfl).cell 1 rfl
        have q2 := (S9.blk 0 rfl).cell 2 rfl
        exact bodyPost_ret (v := .tuple #[.agg #[.int .i64 (turS s).letters, .int .i64 (turS s).start, .slice va vn vc], .int .i64 0]) (by simp [results, Tryz.results10, go_sem, q0, q1, q2]) rfl (by rw [HR.out]; exact (turn_owR (x := turS s) (S9.sel [1]) rr1 rr3).done)
    have t9 : (i : Int) + 1 < (ln : Int) := by omega
    have hkl : i < (splitL 10 s).length := by rw [← HLN.out]; omega
    obtain ⟨U, hU⟩ : ∃ U, U = (splitL 10 s).getD i [] := ⟨_, rfl⟩
    have x1 := strs_at S 2 rfl i hkl
    have hU3 := HLE.out _ (getD_mem hkl)
    rw [← hU] at x1 hU3
    have hst : (((splitL 10 s).drop 1).take (i + 1 - 1)).map rowM = (((splitL 10 s).drop 1).take (i - 1)).map rowM ++ [rowM U] := by
      rw [Nat.add_sub_cancel, drop_take_snoc _ i hi1 hkl, List.map_append, ← hU]; rfl
    have hlm : ((((splitL 10 s).drop 1).take (i - 1)).map rowM).length ≤ 1000000000000 := by rw [List.length_map, List.length_take]; omega
    have HST := Lib.hid hst
    have HSU := Lib.hid (fun w' => l01Split_any 32 32 rfl U w' hU3)
    have hw0 : 0 < (splitL 32 U).length := List.length_pos_iff.2 (splitL_ne 32 U)
    have hwl : ∀ x, x ∈ splitL 32 U → x.length ≤ 1048576 := fun x hx => by have := splitL_le 32 U x hx; omega
    have hwb : (splitL 32 U).length ≤ 1048577 := by have := splitL_len 32 U; omega
    have HROW := Lib.hid (show rowM U = (((splitL 32 U).drop 1).map fun w => (readSM w).1) from rfl)
    have HOKS := Lib.hid (show rowOkS U = (decide ((splitL 32 U).getD 0 [] = stateW) && ((splitL 32 U).drop 1).all fun w => (readSM w).2) from rfl)
    obtain ⟨WD, hWD⟩ : ∃ x, x = splitL 32 U := ⟨_, rfl⟩
    rw [← hWD] at HSU hw0 hwl hwb HROW HOKS
    have HWL := Lib.hid hwl; have HW0 := Lib.hid hw0
    have hbad : rowOkS U = false → ¬ (GoodH s ∧ GoodR s ∧ validTurn (turS s) = true) := fun hf h => by
      have h2 := h.2.1 (i - 1) (by rw [← HLN.out]; omega)
      rw [show i - 1 + 1 = i by omega, ← hU, hf] at h2
      cases h2
    have HBAD := Lib.hid (fun hf => HNO.out (hbad hf))
    have hnext : rowOkS U = true → ∀ k, k + 1 < i + 1 → rowOkS ((splitL 10 s).getD (k + 1) []) = true := fun hf k hk => by
      by_cases hki : k + 1 < i
      · exact HR0.out k hki
      · rw [show k + 1 = i by omega, ← hU]; exact hf
    have HNX := Lib.hid hnext
    obtain ⟨U2, hU2⟩ : ∃ x, x = mkB U := ⟨_, rfl⟩
    rw [← hU2] at x1 HSU
    have i0 : (0 : Int) ≤ (i : Int) := by omega
    have i2 : (i : Int) < (ln : Int) := by omega
    clear hkl hst hU hU3 hWD hwl hbad hnext hU2
    go_wp2_with fail
    clear x1
    refine (HSU.out wr).mono ?_
    rintro e w5 ⟨v5, f5, rfl, o5, nd5, lo5, b5⟩
    replace S := S.made o5 nd5 lo5 b5
    clear o5 nd5 lo5 b5 HSU
    obtain ⟨wb, wo, wn, wc, rfl, hwn⟩ := strs_slc S 0 rfl HW0.out
    have HWN := Lib.hid hwn
    have wn0 : (0 : Int) < (wn : Int) := by rw [hwn]; omega
    have wn0n : 0 < wn := by rw [hwn]; omega
    have wnb : wn ≤ 1048577 := by rw [hwn]; exact hwb
    clear hwn hwb hw0
    replace S := ((S.alloc (cs := #[]) (ty := 54)).lit0 (α := Move) (E := moveE))
    have x1 := strs_at S 1 rfl 0 HW0.out
    obtain ⟨X1, hX1⟩ : ∃ x, x = mkB (WD.getD 0 []) := ⟨_, rfl⟩
    rw [← hX1, Nat.add_zero] at x1
    obtain ⟨gd0, hgd0⟩ : ∃ b, b = decide (WD.getD 0 [] = stateW) := ⟨_, rfl⟩
    have tS : (X1.toList == [115, 116, 97, 116, 101]) = gd0 := by
      rw [hX1, mkB_toList, hgd0]
      by_cases e : WD.getD 0 [] = stateW
      · rw [decide_eq_true e, e]; rfl
      · rw [decide_eq_false e, beq_eq_false_iff_ne]; exact e
    have HGD0 := Lib.hid hgd0
    clear hX1 hgd0
    go_upto_region 14 with fail
    generalize hW : w5.alloc _ = w8 at S x1 ⊢
    clear hW
    obtain ⟨g8, hg8⟩ : ∃ g, g = w5.heap.size := ⟨_, rfl⟩
    rw [← hg8] at S ⊢
    clear hg8
    go_wp2
    clear x1 tS
    go_loopw [7, 11, 12] (fun vg vl vk wr => ∃ (k : Nat) (v2 : Value) (gd : Bool), 1 ≤ k ∧ k ≤ wn ∧ vg = .bool gd ∧ vl = v2 ∧ vk = .int .i64 k ∧ Hid (gd = (gd0 && ((WD.drop 1).take (k - 1)).all fun w => (readSM w).2)) ∧ Star w wr [oE movesE [v2] (((WD.drop 1).take (k - 1)).map fun w => (readSM w).1), oE strsE [.slice (some ⟨wb, wo, none⟩) wn wc] (WD.map mkB), oB gb [.int .i64 N1, .int .i64 N3, .slice va vn vc] 24, oE movessE [.slice va vn vc] ((((splitL 10 s).drop 1).take (i - 1)).map rowM), oE strsE [.slice (some ⟨lb, lo, none⟩) ln lc] ((splitL 10 s).map mkB), oB g2 [.int .i64 0, .int .i64 0, .slice none 0 0] 24]) (fun _ _ vk _ => wn - (intOf vk).toNat)
    case atStart => exact ⟨1, _, gd0, by omega, by omega, rfl, rfl, rfl, Lib.hid (by simp), S⟩
    case round =>
      clear S
      obtain ⟨k, v2, gd, hk1, hk, rfl, rfl, rfl, HG, S⟩ := hrel
      obtain ⟨la, lnn, lcc, rfl⟩ := S.slc 0 rfl
      by_cases hkl : k < wn
      case neg =>
        obtain rfl : k = wn := by omega
        have t10 : ¬ (k : Int) < (k : Int) := by omega
        have ht : (WD.drop 1).take (k - 1) = WD.drop 1 := List.take_of_length_le (by rw [List.length_drop, ← HWN.out]; exact Nat.le_refl _)
        rw [ht] at S HG
        rw [← HROW.out] at S
        have hgd : gd = rowOkS U := by rw [HOKS.out, HG.out, HGD0.out]
        have HGDD := Lib.hid hgd
        clear ht hgd HG
        cases gd with
        | false =>
          have hr := HBAD.out HGDD.out.symm
          have HR := Lib.hid hr
          clear hr HBAD HNX
          have z0 := (S.blk 5 rfl).cell 0 rfl
          have z1 := (S.blk 5 rfl).cell 1 rfl
          have z2 := (S.blk 5 rfl).cell 2 rfl
          have zf := (S.blk 5 rfl).free
          go_wp2
          generalize hW : ((World.setCell _ _ _).setCell _ _).setCell _ _ = w20
          have S9 : Star w w20 [oB g2 [.int .i64 0, .int .i64 0, .slice none 0 0] 24] := hW ▸ (((S.sel [5]).set 0 _).set 1 _).set 2 _
          have q0 := (S9.blk 0 rfl).cell 0 rfl
          have q1 := (S9.blk 0 rfl).cell 1 rfl
          have q2 := (S9.blk 0 rfl).cell 2 rfl
          exact bodyPost_ret (v := .tuple #[.agg #[.int .i64 0, .int .i64 0, .slice none 0 0], .int .i64 5]) (by simp [results, Tryz.results10, go_sem, q0, q1, q2]) rfl (by rw [HR.out]; exact (S9.flat (ow_noTurn _)).done)
        | true =>
          have HR1 := Lib.hid (HNX.out HGDD.out.symm)
          have x2 := (S.blk 2 rfl).cell 2 rfl
          have SC := (S.alloc (cs := #[.slice la lnn lcc]) (ty := 52)).sel [4, 1, 3, 5, 6]
          go_wp2_with (at_builtin; refine st1_MoveSS SC rfl rfl rfl rfl cell_a1 (one_mem rfl) hlm ?_; intro ja jn' jc' w9 S9; have x9 := (S9.blk 1 rfl).cell 2 rfl; have cf := (S9.blk 1 rfl).free)
          go_roundw
          case rel => exact ⟨i + 1, _, by omega, by omega, rfl, by go_num, HR1, by rw [HST.out]; exact ((S9.sel [1, 0, 2, 3]).set 2 (.slice ja jn' jc'))⟩
          case measure => simp [intOf]; omega
      have t10 : (k : Int) < (wn : Int) := by omega
      have hkw : k < WD.length := by rw [← HWN.out]; exact hkl
      obtain ⟨u, hu⟩ : ∃ u, u = WD.getD k [] := ⟨_, rfl⟩
      have y1 := strs_at S 1 rfl k hkw
      have hu3 := HWL.out _ (getD_mem hkw)
      rw [← hu] at y1 hu3
      have hsn := drop_take_snoc WD k hk1 hkw
      rw [← hu] at hsn
      have HST2 := Lib.hid (show ((WD.drop 1).take (k + 1 - 1)).map (fun w => (readSM w).1) = ((WD.drop 1).take (k - 1)).map (fun w => (readSM w).1) ++ [(readSM u).1] by rw [Nat.add_sub_cancel, hsn, List.map_append]; rfl)
      have hg2 : (gd && (readSM u).2) = (gd0 && ((WD.drop 1).take (k + 1 - 1)).all fun w => (readSM w).2) := by
        rw [Nat.add_sub_cancel, hsn, List.all_append, HG.out]
        simp [Bool.and_assoc]
      have hrg := readSM_range u
      have HRU := Lib.hid (fun w' => l02Read_any u w' hu3)
      obtain ⟨mv, hmv⟩ : ∃ x, x = (readSM u).1 := ⟨_, rfl⟩
      obtain ⟨ok, hok⟩ : ∃ x, x = (readSM u).2 := ⟨_, rfl⟩
      rw [← hmv] at HST2 hrg
      rw [← hok] at hg2
      rw [← hmv, ← hok] at HRU
      obtain ⟨u2, hu2⟩ : ∃ x, x = mkB u := ⟨_, rfl⟩
      rw [← hu2] at y1 HRU
      have HRG := Lib.hid hrg
      have HG2 := Lib.hid hg2
      have hll : (((WD.drop 1).take (k - 1)).map fun w => (readSM w).1).length ≤ 1000000000000 := by rw [List.length_map, List.length_take]; omega
      have k0 : (0 : Int) ≤ (k : Int) := by omega
      clear hkw hu hu3 hsn hg2 hrg hmv hok hu2 HG
      go_wp2_with fail
      clear y1
      refine (HRU.out wr).mono ?_
      rintro e w9 ⟨rfl, b9⟩
      have SM := (S.step b9).alloc (cs := #[.int .i64 mv.to, .int .i64 mv.dir]) (ty := 54)
      clear b9 HRU S
      cases gd with
      | false =>
        go_upto_region 19 with fail
        generalize hW : World.alloc w9 _ = w10 at SM ⊢
        obtain ⟨gm, hgm⟩ : ∃ g, g = w9.heap.size := ⟨_, rfl⟩
        rw [← hgm] at SM ⊢
        clear hW hgm
        have m0 := (SM.blk 0 rfl).cell 0 rfl
        have m1 := (SM.blk 0 rfl).cell 1 rfl
        have SA := ((SM.alloc (cs := #[.int .i64 mv.to, .int .i64 mv.dir]) (ty := 54)).move HRG.out.1 HRG.out.2).sel [3, 0, 4, 5, 6, 7, 8]
        go_wp2_with (at_builtin; refine st1_MoveS SA rfl rfl rfl rfl cell_a1 (one_mem2 rfl rfl) hll ?_; intro ta tn tc w11 S11)
        go_roundw
        case rel => exact ⟨k + 1, _, _, by omega, by omega, rfl, rfl, by go_num, HG2, by rw [HST2.out]; exact S11⟩
        case measure => simp [intOf]; omega
      | true =>
        go_upto_region 19 with fail
        generalize hW : World.alloc w9 _ = w10 at SM ⊢
        obtain ⟨gm, hgm⟩ : ∃ g, g = w9.heap.size := ⟨_, rfl⟩
        rw [← hgm] at SM ⊢
        clear hW hgm
        have m0 := (SM.blk 0 rfl).cell 0 rfl
        have m1 := (SM.blk 0 rfl).cell 1 rfl
        have SA := ((SM.alloc (cs := #[.int .i64 mv.to, .int .i64 mv.dir]) (ty := 54)).move HRG.out.1 HRG.out.2).sel [3, 0, 4, 5, 6, 7, 8]
        go_wp2_with (at_builtin; refine st1_MoveS SA rfl rfl rfl rfl cell_a1 (one_mem2 rfl rfl) hll ?_; intro ta tn tc w11 S11)
        go_roundw
        case rel => exact ⟨k + 1, _, _, by omega, by omega, rfl, rfl, by go_num, HG2, by rw [HST2.out]; exact S11⟩
        case measure => simp [intOf]; omega

end Go.Proofs.YtodoghidckelcaaGreatDoor
