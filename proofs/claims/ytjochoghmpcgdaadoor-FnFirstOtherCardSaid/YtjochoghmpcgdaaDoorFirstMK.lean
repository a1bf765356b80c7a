/-
  The program's FirstOther: the scan.
-/
import Derived.Test.YtjochoghmpcgdaaDoorFirstIK
import Derived.Deep.DeepCutAuto
namespace Go.Proofs.YtjochoghmpcgdaaDoor
open Go.RowKit

theorem rdWP_box {W : Writer} {w : World} {B : Nat} {v2 v3 : Value} {g : Nat} (hA : Blk w g [.int .i64 W.turner.letters, .int .i64 W.turner.start, v2, v3] 30) (h2 : movessE.rd w B [v2] W.turner.moves) (h3 : strssE.rd w B [v3] W.out) (hk : writerOk W = true) : RdWP W w g := by
  have K := writOk_of hk
  obtain ⟨ta, tp, tc, rfl, ht⟩ := rdT_of h2 K.v
  obtain ⟨oa, op, oc, rfl, ho⟩ := rdO_of h3 hk
  exact ⟨⟨ta, tp, tc, hA.cell 0 rfl, hA.cell 1 rfl, hA.cell 2 rfl, ht⟩, oa, op, oc, hA.cell 3 rfl, ho⟩

theorem hcall_first (y : ByteArray) (v1 v2 v3 v4 : Value) (w : World) : (callFunc 24 #[.string y, v1, v2, v3, v4]).run Tryd.prog w = .ok (.enter 24 #[.string y, v1, v2, v3, v4]) w := by
  have hf := Tryd.func24
  go_simp

set_option maxHeartbeats 8000000 in
set_option maxRecDepth 100000 in
theorem first_scan (u v : Writer) (N c : Nat) (cu cv : List Value) (B : Nat) (w : World) (hB : B ≤ w.heap.size) (hu : writE.rd w B cu u) (hv : writE.rd w B cv v) (hbu : writerOk u = true) (hbv : writerOk v = true) (hcu : u.turner.letters = c) (hcv : v.turner.letters = c) (hN : N ≤ 60) (T : ByteArray × Int)
    (hT : (if 2000 < (allW c N).length then (⟨#[]⟩, 3) else scanO u v (allW c N)) = T) :
    Calls Tryd.prog 9 #[.agg cu.toArray, .agg cv.toArray, .int .i64 (N : Nat)] w (TxtIs T w) := by
  obtain ⟨u2, u3, rfl, a1, a2, a3, a4⟩ := rd_WriterF hu
  obtain ⟨v2, v3, rfl, b1, b2, b3, b4⟩ := rd_WriterF hv
  have hc : 1 ≤ c ∧ c ≤ 3 := by
    have K := (writOk_of hbu).t
    have h1 := K.l1
    have h3 := K.l3
    omega
  have S := ((Star.nil w).alloc (cs := #[.int .i64 u.turner.letters, .int .i64 u.turner.start, u2, u3]) (ty := 30)).alloc (cs := #[.int .i64 v.turner.letters, .int .i64 v.turner.start, v2, v3]) (ty := 30)
  rw [World.size_alloc] at S
  have HU := Lib.hid (show ∀ w', Below w.heap.size w w' → Calls Tryd.prog 20 #[.agg #[.int .i64 u.turner.letters, .int .i64 u.turner.start, u2, u3]] w' (Gives (.bool true) w') from fun w' hbl => validWriter_is true [.int .i64 u.turner.letters, .int .i64 u.turner.start, u2, u3] u B w' (Nat.le_trans hB hbl.size) (writE.rd_of (hbl.mono hB) hu) hbu)
  have HV := Lib.hid (show ∀ w', Below w.heap.size w w' → Calls Tryd.prog 20 #[.agg #[.int .i64 v.turner.letters, .int .i64 v.turner.start, v2, v3]] w' (Gives (.bool true) w') from fun w' hbl => validWriter_is true [.int .i64 v.turner.letters, .int .i64 v.turner.start, v2, v3] v B w' (Nat.le_trans hB hbl.size) (writE.rd_of (hbl.mono hB) hv) hbv)
  have HUW := Lib.hid (rdWP_box (S.blk 1 rfl) (movessE.rd_of (S.below.mono hB) a3) (strssE.rd_of (S.below.mono hB) a4) hbu)
  have HVW := Lib.hid (rdWP_box (S.blk 0 rfl) (movessE.rd_of (S.below.mono hB) b3) (strssE.rd_of (S.below.mono hB) b4) hbv)
  have HCU := Lib.hid hcu; have HCV := Lib.hid hcv; have HT := Lib.hid hT
  have HCL := Lib.hid (show v.turner.letters = u.turner.letters by rw [hcu, hcv])
  rw [hcu] at S HU HUW HVW ⊢
  rw [hcv] at S HV HUW HVW ⊢
  clear a1 a2 a3 a4 b1 b2 b3 b4 hu hv hbu hbv hcu hcv hT
  go_enter Tryd.func9, Tryd.ntmps9
  go_wp2_with fail
  generalize hW : (w.alloc _).alloc _ = w0 at S HUW HVW ⊢
  clear hW
  obtain ⟨ga, hga⟩ : ∃ g, g = w.heap.size := ⟨_, rfl⟩
  rw [← hga] at S HUW HVW ⊢
  obtain ⟨gb, hgb⟩ : ∃ g, g = ga + 1 := ⟨_, rfl⟩
  rw [← hgb] at S HVW ⊢
  have hB0 := S.below
  have HB0 := Lib.hid hB0
  refine (HU.out w0 (S.below.mono (Nat.le_refl _))).mono ?_
  rintro e w2 ⟨rfl, b1⟩
  have S0 := (Star.nil w0).step b1
  replace S := S.step b1
  have y0 := (S.blk 0 rfl).cell 0 rfl
  have y1 := (S.blk 0 rfl).cell 1 rfl
  have y2 := (S.blk 0 rfl).cell 2 rfl
  have y3 := (S.blk 0 rfl).cell 3 rfl
  clear b1 hB0 hga hgb
  go_wp2_with fail
  refine (HV.out w2 (S.below.mono (Nat.le_refl _))).mono ?_
  rintro e w3 ⟨rfl, b1⟩
  replace S0 := S0.step b1
  replace S := S.step b1
  clear y0 y1 y2 y3 b1
  have z0 := (S.blk 0 rfl).cell 0 rfl
  have hwi : within (N : Int) 0 60 = true := within_true.2 ⟨by omega, by omega⟩
  have HWI := Lib.hid (fun w' => within_any (N : Int) 0 60 w')
  rw [hwi] at HWI
  clear hwi
  go_wp2_with fail
  refine (HWI.out w3).mono ?_
  rintro e w4 ⟨rfl, b1⟩
  replace S0 := S0.step b1
  clear S z0 b1 HU HV HWI
  have HCW := Lib.hid (countWords_any c N hc hN w4)
  go_wp2_with fail
  refine HCW.out.mono ?_
  rintro e w5 ⟨k, rfl, hk1, hk2, rfl⟩
  clear HCW
  by_cases hb : 2000 < k
  · have hT2 := HT.out
    rw [if_pos (hk2.1 hb)] at hT2
    subst hT2
    have hb2 : (2000 : Int) < (k : Int) := by omega
    clear hk2
    go_wp2
    go_ret2
    exact ⟨rfl, HB0.out.trans (S0.below.mono HB0.out.size)⟩
  have hT2 := HT.out
  rw [if_neg (fun h => hb (hk2.2 h))] at hT2
  have hb2 : ¬ (2000 : Int) < (k : Int) := by omega
  have HT2 := Lib.hid hT2
  clear hk2 hT2 HT hb
  have wn : IntKind.i64.wrap ((N : Int) + 1) = (N : Int) + 1 := IntWalk.i64_in _ ⟨by omega, by omega⟩
  have S1 := (S0.alloc (cs := #[.string ⟨#[]⟩]) (ty := 9)).alloc (cs := #[.int .i64 6]) (ty := 2)
  rw [World.size_alloc] at S1
  go_wp2
  generalize hW : (w5.alloc _).alloc _ = w6 at S1 ⊢
  obtain ⟨gw, hgw⟩ : ∃ g, g = w5.heap.size := ⟨_, rfl⟩
  rw [← hgw] at S1 ⊢
  obtain ⟨gc, hgc⟩ : ∃ g, g = gw + 1 := ⟨_, rfl⟩
  rw [← hgc] at S1 ⊢
  clear hW hgw hgc S0
  obtain ⟨R, hR⟩ : ∃ R, R = scanW (stepO u v) (restW c 0 N) (6, ⟨#[]⟩) := ⟨_, rfl⟩
  have hRT : R.1 = (T.2, T.1) := by rw [hR, restW_zero, scanO_link, HT2.out]
  have HRT := Lib.hid hRT
  have HR0 := Lib.hid hR.symm
  clear hR hRT HT2
  go_loopw [42] (fun vn wr => ∃ (n : Nat) (s : Int × ByteArray), n ≤ N + 1 ∧ vn = .int .i64 (n : Nat) ∧ Star w0 wr (mkO gc gw s ++ []) ∧ Hid (scanW (stepO u v) (restW c n N) s = R)) (fun vn _ => N + 1 - (intOf vn).toNat)
  case atStart => exact ⟨0, (6, ⟨#[]⟩), Nat.zero_le _, rfl, S1, HR0⟩
  case round =>
    clear S1 HR0
    obtain ⟨n, s, hn, rfl, S, HR⟩ := hrel
    by_cases hnN : n < N + 1
    case neg =>
      have hR2 : (s, false) = R := by
        have h := HR.out
        rw [show n = N + 1 from by omega, restW_nil] at h
        exact h
      have hs : s = (T.2, T.1) := by rw [← HRT.out, ← hR2]
      subst hs
      replace S : Star w0 wr [oB gc [.int .i64 T.2] 2, oB gw [.string T.1] 9] := S
      have x0 := (S.blk 0 rfl).cell 0 rfl
      have x1 := (S.blk 1 rfl).cell 0 rfl
      have h1 : ¬ (n : Int) < (N : Int) + 1 := by omega
      clear hR2
      go_wp2
      go_quiet (fail)
      go_wp2
      go_ret2
      exact ⟨rfl, below_drewN (HB0.out.trans (S.below.mono HB0.out.size)) _⟩
    have h1 : (n : Int) < (N : Int) + 1 := by omega
    obtain ⟨R2, hR2⟩ : ∃ R2, R2 = scanW (stepO u v) (wordsN c n) s := ⟨_, rfl⟩
    have hR3 : (if R2.2 = true then R2 else scanW (stepO u v) (restW c (n + 1) N) R2.1) = R := by
      have h := HR.out
      rw [restW_cons c n N (by omega), scanW_app, ← hR2] at h
      exact h
    have HR3 := Lib.hid hR3
    have HWO := Lib.hid (wordsOf_any (stepO u v) (mkO gc gw) 24 (.pointer (some ⟨ga, 0, none⟩)) (.pointer (some ⟨gb, 0, none⟩)) (.pointer (some ⟨gc, 0, none⟩)) (.pointer (some ⟨gw, 0, none⟩)) c n hc (by omega) (fun y w => hcall_first y _ _ _ _ w) w0 wr s [] R2 (fun x hx s ps w S => by
      have hk := wordsN_ok c (by omega) n x hx
      exact firstC_any u v ga gb gc gw w0 HUW.out HVW.out HCL.out x (by rw [HCU.out, Int.toNat_natCast]; exact hk.1) (by omega) s ps w S) S hR2.symm)
    clear hR2 hR3 HR S
    obtain ⟨s2, bt⟩ := R2
    simp only at HWO HR3
    go_wp2_with fail
    refine HWO.out.mono ?_
    rintro e w7 ⟨rfl, S⟩
    clear HWO
    cases bt
    case true =>
      have hR4 : (s2, true) = R := by have h := HR3.out; rw [if_pos rfl] at h; exact h
      have hs : s2 = (T.2, T.1) := by rw [← HRT.out, ← hR4]
      subst hs
      replace S : Star w0 w7 [oB gc [.int .i64 T.2] 2, oB gw [.string T.1] 9] := S
      have x0 := (S.blk 0 rfl).cell 0 rfl
      have x1 := (S.blk 1 rfl).cell 0 rfl
      clear hR4
      go_wp2
      go_quiet (fail)
      go_wp2
      go_ret2
      exact ⟨rfl, below_drewN (HB0.out.trans (S.below.mono HB0.out.size)) _⟩
    have hR4 : scanW (stepO u v) (restW c (n + 1) N) s2 = R := by have h := HR3.out; rw [if_neg (by decide)] at h; exact h
    have HR4 := Lib.hid hR4
    clear hR4 HR3
    go_wp2
    go_roundw
    case rel => exact ⟨n + 1, s2, by omega, by go_num, S, HR4⟩
    case measure => simp [intOf]; omega

end Go.Proofs.YtjochoghmpcgdaaDoor
