/-
  A writer read by the program.
-/
import Derived.Test.YtodoghidckelcaaGreatDoorRwTK
namespace Go.Proofs.YtodoghidckelcaaGreatDoor
open Go.RowKit Go.PlainAid

theorem ow_noWrit (w : World) : writE.ow w [.int .i64 0, .int .i64 0, .slice none 0 0, .slice none 0 0] noWrit [] :=
  ow_Writer (r := noWrit) (ow_noTurn w) (ow_nil _ _ _)

theorem writ_owR {w0 w : World} {ps : List Ob} {c0 : List Value} {v : Value} {x : Writer} (S : Star w0 w (oE turnE c0 x.turner :: oE strssE [v] x.out :: ps)) : Star w0 w (oE writE (c0 ++ [v]) x :: ps) := S.pair.via x rfl

theorem cut_le (s : List UInt8) : (Lib.cut s sepO).1.length ≤ s.length ∧ (Lib.cut s sepO).2.1.length ≤ s.length := by
  unfold Lib.cut
  split
  · simp only [List.length_take, List.length_drop]; omega
  · simp

set_option maxHeartbeats 8000000 in
set_option maxRecDepth 100000 in
theorem readWriter_any (s : List UInt8) (m : Int) (w : World) (hs : s.length ≤ 1048576) (hM : MaxIsT m w.heap.size w) (h15 : ErrIs (Tryz.lays174_ren.g 15) w.heap.size w) (h16 : ErrIs (Tryz.lays174_ren.g 16) w.heap.size w) (hT : Pow10 w.heap.size w) :
    Calls Tryz.prog 5 #[.string (mkB s)] w (MakesC writE (readW s) w) := by
  have S := (Star.nil w).alloc (cs := #[.int .i64 0, .int .i64 0, .slice none 0 0, .slice none 0 0]) (ty := 27)
  by_cases hbig : 20000 < s.length
  · have hr : readW s = (noWrit, 2) := by unfold readW; rw [if_pos hbig]
    have HRES2 := Lib.hid hr
    obtain ⟨RES, hRES⟩ : ∃ x, x = readW s := ⟨_, rfl⟩
    rw [← hRES] at HRES2 ⊢
    obtain ⟨T, hTT⟩ : ∃ T, T = mkB s := ⟨_, rfl⟩
    rw [← hTT]
    have t1 : (20000 : Int) < (T.size : Int) := by rw [hTT, mkB_size]; omega
    clear hr hTT hM h15 h16 hT hbig hs hRES
    go_enter Tryz.func5, Tryz.ntmps5
    go_upto_region 1 with fail
    generalize hW : w.alloc _ = w0 at S ⊢
    clear hW
    obtain ⟨g2, hg⟩ : ∃ g, g = w.heap.size := ⟨_, rfl⟩
    rw [← hg] at S ⊢
    clear hg
    have z0 := (S.blk 0 rfl).cell 0 rfl
    have z1 := (S.blk 0 rfl).cell 1 rfl
    have z2 := (S.blk 0 rfl).cell 2 rfl
    have z3 := (S.blk 0 rfl).cell 3 rfl
    have zf := (S.blk 0 rfl).free
    go_wp2
    generalize hW : (((World.setCell _ _ _).setCell _ _).setCell _ _).setCell _ _ = w20
    have S9 : Star w w20 [oB g2 [.int .i64 0, .int .i64 0, .slice none 0 0, .slice none 0 0] 27] := hW ▸ ((((S.sel [0]).set 0 _).set 1 _).set 2 _).set 3 _
    have q0 := (S9.blk 0 rfl).cell 0 rfl
    have q1 := (S9.blk 0 rfl).cell 1 rfl
    have q2 := (S9.blk 0 rfl).cell 2 rfl
    have q3 := (S9.blk 0 rfl).cell 3 rfl
    exact bodyPost_ret (v := .tuple #[.agg #[.int .i64 0, .int .i64 0, .slice none 0 0, .slice none 0 0], .int .i64 2]) (by simp [results, Tryz.results5, go_sem, q0, q1, q2, q3]) rfl (by rw [HRES2.out]; exact (S9.flat (ow_noWrit _)).done)
  -- the text is short enough
  have hcl := cut_le s
  have HCU := Lib.hid (fun w' hm => Any.strings_Cut Tryz.lays145 (mkB s) ⟨#[10, 111, 117, 116]⟩ m w' (by rw [mkB_size]; omega) hm)
  rw [show (mkB s).data.toList = s from rfl, show (⟨#[10, 111, 117, 116]⟩ : ByteArray).data.toList = sepO from rfl] at HCU
  have hres : readW s = if (Lib.cut s sepO).2.2 = false then (noWrit, 5) else if writerOk (parseW s) = true ∧ writL (parseW s) = s then (parseW s, 0) else (noWrit, 5) := by unfold readW; rw [if_neg hbig]
  obtain ⟨RES, hRES⟩ : ∃ x, x = readW s := ⟨_, rfl⟩
  rw [← hRES] at hres ⊢
  clear hRES
  obtain ⟨T, hTT⟩ : ∃ T, T = mkB s := ⟨_, rfl⟩
  have hTeq : ∀ t : Writer, (writL t = s) ↔ (⟨(writL t).toArray⟩ : ByteArray) = T := by
    intro t
    rw [hTT]
    exact ⟨fun e => by rw [e]; rfl, fun e => mkB_inj e⟩
  have t1 : ¬ (20000 : Int) < (T.size : Int) := by rw [hTT, mkB_size]; omega
  have HTE := Lib.hid hTeq
  rw [← hTT] at HCU ⊢
  clear hTeq hTT
  have HM := Lib.hid hM
  obtain ⟨ca, hca⟩ : ∃ x, x = (Lib.cut s sepO).1 := ⟨_, rfl⟩
  obtain ⟨cb, hcb⟩ : ∃ x, x = (Lib.cut s sepO).2.1 := ⟨_, rfl⟩
  obtain ⟨cc, hcc⟩ : ∃ x, x = (Lib.cut s sepO).2.2 := ⟨_, rfl⟩
  have hpw : parseW s = ⟨(readT (ca ++ [10])).1, (splitL 10 (Lib.trimSuffix (outO ++ cb) [10])).map orowT⟩ := by unfold parseW olinesT; rw [← hca, ← hcb]
  rw [hpw] at hres
  rw [← hca, ← hcb] at hcl
  rw [← hca, ← hcb, ← hcc] at HCU
  rw [← hcc] at hres
  clear hca hcb hcc hpw
  obtain ⟨OL, hOL⟩ : ∃ x, x = splitL 10 (Lib.trimSuffix (outO ++ cb) [10]) := ⟨_, rfl⟩
  obtain ⟨OS, hOS⟩ : ∃ x, x = OL.map orowT := ⟨_, rfl⟩
  rw [← hOL, ← hOS] at hres
  obtain ⟨n, hn⟩ : ∃ n, n = OL.length := ⟨_, rfl⟩
  have htl := Lib.trimSuffix_le (outO ++ cb) [10]
  rw [List.length_append, show outO.length = 3 from rfl] at htl
  have HS1 := Lib.hid (fun w' (bl : Below w.heap.size w w') => split_any 10 (Lib.trimSuffix (outO ++ cb) [10]) m n w' (by rw [hn, hOL]) (by omega) (hM.at bl))
  rw [← hOL] at HS1
  have HTR := Lib.hid (fun w' => Any.strings_TrimSuffix Tryz.lays102 (mkB (outO ++ cb)) ⟨#[10]⟩ w' (by rw [mkB_size, List.length_append, show outO.length = 3 from rfl]; omega))
  rw [show (⟨(Lib.trimSuffix (mkB (outO ++ cb)).data.toList (⟨#[10]⟩ : ByteArray).data.toList).toArray⟩ : ByteArray) = mkB (Lib.trimSuffix (outO ++ cb) [10]) from rfl, mkB_app, show mkB outO = ⟨#[111, 117, 116]⟩ from rfl] at HTR
  have HRT := Lib.hid (fun w' (bl : Below w.heap.size w w') => readTurner_any (ca ++ [10]) m w' (by rw [List.length_append, List.length_singleton]; omega) (hM.at bl) (h15.at bl) (h16.at bl) ((hT.step bl).up bl.size))
  rw [mkB_app, show mkB [10] = ⟨#[10]⟩ from rfl] at HRT
  obtain ⟨⟨tt, tcd⟩, hRT⟩ : ∃ x : Turner × Int, x = readT (ca ++ [10]) := ⟨_, rfl⟩
  rw [← hRT] at HRT hres
  dsimp only at hres
  have hLe : ∀ x, x ∈ OL → x.length ≤ 30000 := by
    intro x hx
    rw [hOL] at hx
    have h1 := splitL_le 10 _ x hx
    omega
  have hRl : OS.length = n := by rw [hOS, List.length_map, hn]
  have hn3 : n ≤ 30001 := by
    have h1 := splitL_len 10 (Lib.trimSuffix (outO ++ cb) [10])
    rw [← hOL] at h1
    omega
  have HTX := Lib.hid (fun w' cs B (bl : Below w.heap.size w w') (hB : B ≤ w'.heap.size) (h : writE.rd w' B cs ⟨tt, OS⟩) => writText_any cs ⟨tt, OS⟩ B w' hB h ((hT.step bl).up bl.size))
  have HVT := Lib.hid (fun w' cs B b (hB : B ≤ w'.heap.size) (h : writE.rd w' B cs ⟨tt, OS⟩) (hb : writerOk ⟨tt, OS⟩ = b) => show Calls Tryz.prog 16 #[.agg cs.toArray] w' (Gives (.bool b) w') from hb ▸ validWriter_any cs ⟨tt, OS⟩ B w' hB h)
  have HSP := Lib.hid (fun u k w' (hu : u.length ≤ 30000) hk (bl : Below w.heap.size w w') => split_any 32 u m k w' hk hu (hM.at bl))
  obtain ⟨A, hA⟩ : ∃ x, x = mkB ca := ⟨_, rfl⟩
  obtain ⟨C, hC⟩ : ∃ x, x = mkB cb := ⟨_, rfl⟩
  obtain ⟨Y, hY⟩ : ∃ x, x = mkB (Lib.trimSuffix (outO ++ cb) [10]) := ⟨_, rfl⟩
  rw [show (⟨ca.toArray⟩ : ByteArray) = A from hA.symm, show (⟨cb.toArray⟩ : ByteArray) = C from hC.symm] at HCU
  rw [← hA] at HRT
  rw [← hC, ← hY] at HTR
  rw [← hY] at HS1
  have HRES := Lib.hid hres; have HLe := Lib.hid hLe; have HRS := Lib.hid hOS; have HLL := Lib.hid hn; have HRL := Lib.hid hRl
  have hAs : A.size ≤ 1000000 := by rw [hA, mkB_size]; omega
  have hCs : C.size ≤ 1000000 := by rw [hC, mkB_size]; omega
  clear hs h15 h16 hT hbig hcl hres hOL hOS hn htl hRT hLe hRl hA hC hY hM
  go_enter Tryz.func5, Tryz.ntmps5
  go_upto_region 1 with fail
  generalize hW : w.alloc _ = w0 at S ⊢
  clear hW
  obtain ⟨g2, hg2⟩ : ∃ g, g = w.heap.size := ⟨_, rfl⟩
  rw [← hg2] at S ⊢
  clear hg2
  go_wp2_with fail
  refine (HCU.out _ (HM.out _ S.below)).mono ?_
  rintro e w1 ⟨rfl, kd, rfl⟩
  replace S := S.step (below_drewN (Below.refl _ _) kd)
  clear HCU HM
  cases cc with
  | false =>
    have hr : RES = (noWrit, 5) := by rw [HRES.out, if_pos rfl]
    have HRES2 := Lib.hid hr
    clear hr HRES HTR HS1 HRT HTX HVT HSP HRS HLe HLL HRL
    generalize hW5 : w0.drewN kd = w5 at S ⊢
    clear hW5
    have z0 := (S.blk 0 rfl).cell 0 rfl
    have z1 := (S.blk 0 rfl).cell 1 rfl
    have z2 := (S.blk 0 rfl).cell 2 rfl
    have z3 := (S.blk 0 rfl).cell 3 rfl
    have zf := (S.blk 0 rfl).free
    go_wp2
    generalize hW : (((World.setCell _ _ _).setCell _ _).setCell _ _).setCell _ _ = w20
    have S9 : Star w w20 [oB g2 [.int .i64 0, .int .i64 0, .slice none 0 0, .slice none 0 0] 27] := hW ▸ ((((S.sel [0]).set 0 _).set 1 _).set 2 _).set 3 _
    have q0 := (S9.blk 0 rfl).cell 0 rfl
    have q1 := (S9.blk 0 rfl).cell 1 rfl
    have q2 := (S9.blk 0 rfl).cell 2 rfl
    have q3 := (S9.blk 0 rfl).cell 3 rfl
    exact bodyPost_ret (v := .tuple #[.agg #[.int .i64 0, .int .i64 0, .slice none 0 0, .slice none 0 0], .int .i64 5]) (by simp [results, Tryz.results5, go_sem, q0, q1, q2, q3]) rfl (by rw [HRES2.out]; exact (S9.flat (ow_noWrit _)).done)
  | true =>
  have hr : RES = if writerOk ⟨tt, OS⟩ = true ∧ writL ⟨tt, OS⟩ = s then (⟨tt, OS⟩, 0) else (noWrit, 5) := by rw [HRES.out, if_neg (by decide)]
  replace HRES := Lib.hid hr
  clear hr
  generalize hW5 : w0.drewN kd = w5 at S ⊢
  clear hW5
  have SB := (S.alloc (cs := #[.int .i64 0, .int .i64 0, .slice none 0 0, .slice none 0 0]) (ty := 27))
  have a0 := (SB.blk 0 rfl).cell 0 rfl
  go_upto_region 7 with fail
  generalize hW : w5.alloc _ = w6 at SB ⊢
  clear hW a0
  obtain ⟨gb, hgb⟩ : ∃ g, g = w5.heap.size := ⟨_, rfl⟩
  rw [← hgb] at SB ⊢
  clear hgb S
  go_wp2_with fail
  refine (HRT.out _ SB.below).mono ?_
  rintro e w7 ⟨cs, f, rfl, o', nd, lo, b7⟩
  obtain ⟨tv, rfl, -, -, h2⟩ := rd_Turner (turnE.rd_ow o')
  obtain ⟨ta, tn, tc, rfl⟩ := rd_slice h2
  have S := (SB.made o' nd lo b7).sel [1, 0, 2]
  clear o' nd lo b7 h2 SB HRT
  have y0 := (S.blk 0 rfl).cell 0 rfl
  have y1 := (S.blk 0 rfl).cell 1 rfl
  have y2 := (S.blk 0 rfl).cell 2 rfl
  have yf := (S.blk 0 rfl).free
  go_upto_region 8 with fail
  generalize hW : ((World.setCell _ _ _).setCell _ _).setCell _ _ = w8
  have S8 : Star w w8 [oB gb [.int .i64 tt.letters, .int .i64 tt.start, .slice ta tn tc, .slice none 0 0] 27, oE turnE [.int .i64 tt.letters, .int .i64 tt.start, .slice ta tn tc] tt, oB g2 [.int .i64 0, .int .i64 0, .slice none 0 0, .slice none 0 0] 27] := hW ▸ ((S.set 0 _).set 1 _).set 2 _
  clear hW S y0 y1 y2 yf
  go_wp2_with fail
  refine (HTR.out w8).mono ?_
  rintro e w9 ⟨rfl, hw⟩
  replace hw := hw.symm
  subst hw
  go_wp2_with fail
  refine (HS1.out _ S8.below).mono ?_
  rintro e w10 ⟨gl, rfl, SL⟩
  have S := ((S8.mergeR SL).nils strsE 33).sel [2, 0, 3, 1, 4]
  clear S8 SL HS1 HTR
  go_wp2
  go_loopw [39] (fun vi wr => ∃ (k : Nat) (v : Value), k ≤ n ∧ vi = .int .i64 k ∧ Star w wr [oB gb [.int .i64 tt.letters, .int .i64 tt.start, .slice ta tn tc, v] 27, oE strssE [v] (OS.take k), oE turnE [.int .i64 tt.letters, .int .i64 tt.start, .slice ta tn tc] tt, oB gl (strsV OL) 9, oB g2 [.int .i64 0, .int .i64 0, .slice none 0 0, .slice none 0 0] 27]) (fun vi _ => n - (intOf vi).toNat)
  case atStart => exact ⟨0, _, Nat.zero_le _, rfl, S⟩
  case round =>
    clear S
    obtain ⟨k, v, hk, rfl, S⟩ := hrel
    obtain ⟨va, vn, vc, rfl⟩ := S.slc 1 rfl
    by_cases hlt : k < n
    case neg =>
      obtain rfl : k = n := by omega
      have ht : OS.take k = OS := List.take_of_length_le (by rw [HRL.out]; exact Nat.le_refl _)
      rw [ht] at S
      clear ht
      have hrd : writE.rd wr wr.heap.size [.int .i64 tt.letters, .int .i64 tt.start, .slice ta tn tc, .slice va vn vc] ⟨tt, OS⟩ := (writ_owR (x := ⟨tt, OS⟩) (S.sel [2, 1])).rd 0 rfl
      have HRR := Lib.hid hrd
      obtain ⟨pw, hpw⟩ : ∃ t : Writer, t = ⟨tt, OS⟩ := ⟨_, rfl⟩
      rw [← hpw] at HRR HVT HTX HRES
      have f0 := (S.blk 0 rfl).cell 0 rfl
      have f1 := (S.blk 0 rfl).cell 1 rfl
      have f2 := (S.blk 0 rfl).cell 2 rfl
      have f3 := (S.blk 0 rfl).cell 3 rfl
      clear hrd HSP HLe HRS HLL HRL hlt hn3
      cases hv : writerOk pw with
      | false =>
        have hr : RES = (noWrit, 5) := by rw [HRES.out, hv]; rfl
        have HV := Lib.hid (HVT.out wr _ _ false (Nat.le_refl _) HRR.out hv)
        have HRES2 := Lib.hid hr
        clear hr hv HVT HTX
        go_wp2_with fail
        refine HV.out.mono ?_
        rintro e w12 ⟨rfl, b12⟩
        replace S := S.step b12
        clear b12 HV f0 f1 f2 f3
        have z0 := (S.blk 4 rfl).cell 0 rfl
        have z1 := (S.blk 4 rfl).cell 1 rfl
        have z2 := (S.blk 4 rfl).cell 2 rfl
        have z3 := (S.blk 4 rfl).cell 3 rfl
        have zf := (S.blk 4 rfl).free
        go_wp2
        generalize hW : (((World.setCell _ _ _).setCell _ _).setCell _ _).setCell _ _ = w20
        have S9 : Star w w20 [oB g2 [.int .i64 0, .int .i64 0, .slice none 0 0, .slice none 0 0] 27] := hW ▸ ((((S.sel [4]).set 0 _).set 1 _).set 2 _).set 3 _
        have q0 := (S9.blk 0 rfl).cell 0 rfl
        have q1 := (S9.blk 0 rfl).cell 1 rfl
        have q2 := (S9.blk 0 rfl).cell 2 rfl
        have q3 := (S9.blk 0 rfl).cell 3 rfl
        exact bodyPost_ret (v := .tuple #[.agg #[.int .i64 0, .int .i64 0, .slice none 0 0, .slice none 0 0], .int .i64 5]) (by simp [results, Tryz.results5, go_sem, q0, q1, q2, q3]) rfl (by rw [HRES2.out]; exact (S9.flat (ow_noWrit _)).done)
      | true =>
        have HV := Lib.hid (HVT.out wr _ _ true (Nat.le_refl _) HRR.out hv)
        have hrr : RES = if (⟨(writL pw).toArray⟩ : ByteArray) = T then (pw, 0) else (noWrit, 5) := by
          rw [HRES.out]
          by_cases ht : writL pw = s
          · rw [if_pos ⟨hv, ht⟩, if_pos ((HTE.out pw).1 ht)]
          · rw [if_neg (fun h => ht h.2), if_neg (fun h => ht ((HTE.out pw).2 h))]
        have htx : writText pw = ⟨(writL pw).toArray⟩ := by unfold writText; rw [if_pos hv]
        rw [← htx] at hrr
        have HR2 := Lib.hid hrr
        clear hrr htx hv HVT
        go_wp2_with fail
        refine HV.out.mono ?_
        rintro e w12 ⟨rfl, b12⟩
        replace S := S.step b12
        have HRR2 := Lib.hid (writE.rd_of (b12.mono (Nat.le_refl _)) HRR.out)
        have hle := b12.size
        clear b12 HV f0 f1 f2 f3
        have f0 := (S.blk 0 rfl).cell 0 rfl
        have f1 := (S.blk 0 rfl).cell 1 rfl
        have f2 := (S.blk 0 rfl).cell 2 rfl
        have f3 := (S.blk 0 rfl).cell 3 rfl
        obtain ⟨X, hX⟩ : ∃ X, X = writText pw := ⟨_, rfl⟩
        rw [← hX] at HR2 HTX
        clear hX
        go_wp2_with fail
        refine (HTX.out w12 _ _ S.below hle HRR2.out).mono ?_
        rintro e w13 ⟨rfl, b13⟩
        replace S := S.step b13
        clear b13 hle HRR2 HTX HRR f0 f1 f2 f3
        by_cases hXT : X = T
        · have hr : RES = (pw, 0) := by rw [HR2.out, if_pos hXT]
          rw [hpw] at hr
          have HRES2 := Lib.hid hr
          have tA : (X.toList == T.toList) = true := by rw [hXT]; simp
          clear hXT hr HR2 hpw
          have f0 := (S.blk 0 rfl).cell 0 rfl
          have f1 := (S.blk 0 rfl).cell 1 rfl
          have f2 := (S.blk 0 rfl).cell 2 rfl
          have f3 := (S.blk 0 rfl).cell 3 rfl
          have z0 := (S.blk 4 rfl).cell 0 rfl
          have z1 := (S.blk 4 rfl).cell 1 rfl
          have z2 := (S.blk 4 rfl).cell 2 rfl
          have z3 := (S.blk 4 rfl).cell 3 rfl
          have zf := (S.blk 4 rfl).free
          go_wp2
          generalize hW : (((World.setCell _ _ _).setCell _ _).setCell _ _).setCell _ _ = w20
          have S9 : Star w w20 [oB g2 [.int .i64 tt.letters, .int .i64 tt.start, .slice ta tn tc, .slice va vn vc] 27, oE turnE [.int .i64 tt.letters, .int .i64 tt.start, .slice ta tn tc] tt, oE strssE [.slice va vn vc] OS] := hW ▸ ((((S.sel [4, 2, 1]).set 0 _).set 1 _).set 2 _).set 3 _
          have q0 := (S9.blk 0 rfl).cell 0 rfl
          have q1 := (S9.blk 0 rfl).cell 1 rfl
          have q2 := (S9.blk 0 rfl).cell 2 rfl
          have q3 := (S9.blk 0 rfl).cell 3 rfl
          exact bodyPost_ret (v := .tuple #[.agg #[.int .i64 tt.letters, .int .i64 tt.start, .slice ta tn tc, .slice va vn vc], .int .i64 0]) (by simp [results, Tryz.results5, go_sem, q0, q1, q2, q3]) rfl (by rw [HRES2.out]; exact (writ_owR (x := ⟨tt, OS⟩) (S9.sel [1, 2])).done)
        · have hr : RES = (noWrit, 5) := by rw [HR2.out, if_neg hXT]
          have HRES2 := Lib.hid hr
          have tA : (X.toList == T.toList) = false := bytes_neR hXT
          clear hXT hr HR2 hpw
          have z0 := (S.blk 4 rfl).cell 0 rfl
          have z1 := (S.blk 4 rfl).cell 1 rfl
          have z2 := (S.blk 4 rfl).cell 2 rfl
          have z3 := (S.blk 4 rfl).cell 3 rfl
          have zf := (S.blk 4 rfl).free
          go_wp2
          generalize hW : (((World.setCell _ _ _).setCell _ _).setCell _ _).setCell _ _ = w20
          have S9 : Star w w20 [oB g2 [.int .i64 0, .int .i64 0, .slice none 0 0, .slice none 0 0] 27] := hW ▸ ((((S.sel [4]).set 0 _).set 1 _).set 2 _).set 3 _
          have q0 := (S9.blk 0 rfl).cell 0 rfl
          have q1 := (S9.blk 0 rfl).cell 1 rfl
          have q2 := (S9.blk 0 rfl).cell 2 rfl
          have q3 := (S9.blk 0 rfl).cell 3 rfl
          exact bodyPost_ret (v := .tuple #[.agg #[.int .i64 0, .int .i64 0, .slice none 0 0, .slice none 0 0], .int .i64 5]) (by simp [results, Tryz.results5, go_sem, q0, q1, q2, q3]) rfl (by rw [HRES2.out]; exact (S9.flat (ow_noWrit _)).done)
    obtain ⟨U, hU⟩ : ∃ U, U = OL.getD k [] := ⟨_, rfl⟩
    have hkl : k < OL.length := by have := HLL.out; omega
    have hU3 : U.length ≤ 30000 := by rw [hU]; exact HLe.out _ (getD_mem hkl)
    have x1 := (S.blk 3 rfl).cell k (v := .string (mkB U)) (by rw [hU]; exact strsV_get OL k hkl)
    have hst : OS.take (k + 1) = OS.take k ++ [orowT U] := by
      have hk2 : k < OS.length := by rw [HRL.out]; exact hlt
      rw [List.take_succ_eq_append_getElem hk2]
      congr 2
      have e : OS[k]? = some (orowT U) := by
        rw [HRS.out, List.getElem?_map, hU, List.getD_eq_getElem?_getD, List.getElem?_eq_getElem hkl]
        rfl
      rw [List.getElem?_eq_getElem hk2] at e
      exact Option.some.inj e
    have hlm : (OS.take k).length ≤ 1000000000000 := by rw [List.length_take]; omega
    obtain ⟨nw, hnw⟩ : ∃ x, (splitL 32 U).length = x + 1 := by
      have : 0 < (splitL 32 U).length := List.length_pos_iff.2 (splitL_ne 32 U)
      exact ⟨(splitL 32 U).length - 1, by omega⟩
    have hnw3 : nw ≤ 30001 := by have := splitL_len 32 U; omega
    have HST := Lib.hid hst
    obtain ⟨WD, hWD⟩ : ∃ x, x = splitL 32 U := ⟨_, rfl⟩
    have hWl : ∀ x, x ∈ WD → x.length ≤ 30000 := by
      intro x hx; rw [hWD] at hx; have := splitL_le 32 U x hx; omega
    have HSU := Lib.hid (fun w' bl => HSP.out U (nw + 1) w' hU3 hnw bl)
    rw [← hWD] at HSU hnw
    obtain ⟨RW, hRW⟩ : ∃ x, x = orowT U := ⟨_, rfl⟩
    have hRW2 : RW = (WD.drop 1).map outW := by rw [hRW, hWD]; rfl
    have hRWl : RW.length = nw := by rw [hRW2, List.length_map, List.length_drop]; omega
    rw [← hRW] at HST
    have HWL := Lib.hid hWl; have HRW := Lib.hid hRW2; have HNW := Lib.hid hnw; have HRWL := Lib.hid hRWl
    obtain ⟨U2, hU2⟩ : ∃ x, x = mkB U := ⟨_, rfl⟩
    rw [← hU2] at x1 HSU
    clear hU hkl hst hWD hnw hWl hRW hRW2 hRWl hU3 hU2
    have i1 : (0 : Int) ≤ (k : Int) := by omega
    have i2 : (k : Int) < (n : Int) := by omega
    have i3 : (1 : Int) ≤ (nw : Int) + 1 := by omega
    have S0 := ((S.alloc (cs := #[]) (ty := 9)).lit0 (α := ByteArray) (E := strE))
    go_wp2_with fail
    generalize hW : wr.alloc _ = w8 at S0 ⊢
    clear hW x1
    obtain ⟨g8, hg8⟩ : ∃ g, g = wr.heap.size := ⟨_, rfl⟩
    rw [← hg8] at S0 ⊢
    clear hg8 S
    refine (HSU.out _ S0.below).mono ?_
    rintro e w9 ⟨gw, rfl, SW⟩
    have S := S0.mergeR SW
    clear S0 SW HSU
    replace S := S.sel [1, 2, 3, 0, 4, 5, 6]
    by_cases hz : nw = 0
    · subst hz
      have hRW0 : RW = [] := List.eq_nil_of_length_eq_zero HRWL.out
      rw [hRW0] at HST
      clear hRW0
      go_wp2
      go_loopw [10, 48] (fun vl q wr => ∃ (j : Nat) (v2 : Value), j ≤ 0 ∧ vl = v2 ∧ q = .int .i64 j ∧ Star w wr [oE strsE [v2] [], oB gb [.int .i64 tt.letters, .int .i64 tt.start, .slice ta tn tc, .slice va vn vc] 27, oE strssE [.slice va vn vc] (OS.take k), oB gw (strsV WD) 9, oE turnE [.int .i64 tt.letters, .int .i64 tt.start, .slice ta tn tc] tt, oB gl (strsV OL) 9, oB g2 [.int .i64 0, .int .i64 0, .slice none 0 0, .slice none 0 0] 27]) (fun _ q _ => 0)
      case atStart => exact ⟨0, _, Nat.le_refl _, rfl, rfl, S⟩
      case round =>
        clear S
        obtain ⟨j, v2, hj, rfl, rfl, S⟩ := hrel
        obtain rfl : j = 0 := by omega
        obtain ⟨la, ln, lc, rfl⟩ := S.slc 0 rfl
        have x2 := (S.blk 1 rfl).cell 3 rfl
        have SC := (S.alloc (cs := #[.slice la ln lc]) (ty := 33)).sel [3, 1, 2, 5, 6, 7]
        go_wp2_with (at_builtin; refine st1_StringSS SC rfl rfl rfl rfl cell_a1 (one_mem rfl) hlm ?_; intro ja jn' jc' w9 S9; have x9 := (S9.blk 1 rfl).cell 3 rfl; have cf := (S9.blk 1 rfl).free)
        go_roundw
        case rel => exact ⟨k + 1, _, by omega, by go_num, by rw [HST.out]; exact ((S9.sel [1, 0, 2, 3, 4]).set 3 (.slice ja jn' jc'))⟩
        case measure => simp [intOf]; omega
    · have hz1 : ¬ (nw : Int) = 0 := by omega
      go_wp2
      go_loopw [10, 48] (fun vl q wr => ∃ (j : Nat) (v2 : Value), j ≤ nw ∧ vl = v2 ∧ q = .int .i64 j ∧ Star w wr [oE strsE [v2] (RW.take j), oB gb [.int .i64 tt.letters, .int .i64 tt.start, .slice ta tn tc, .slice va vn vc] 27, oE strssE [.slice va vn vc] (OS.take k), oB gw (strsV WD) 9, oE turnE [.int .i64 tt.letters, .int .i64 tt.start, .slice ta tn tc] tt, oB gl (strsV OL) 9, oB g2 [.int .i64 0, .int .i64 0, .slice none 0 0, .slice none 0 0] 27]) (fun _ q _ => nw - (intOf q).toNat)
      case atStart => exact ⟨0, _, Nat.zero_le _, rfl, rfl, S⟩
      case round =>
        clear S
        obtain ⟨j, v2, hj, rfl, rfl, S⟩ := hrel
        by_cases hjl : j < nw
        case neg =>
          obtain rfl : j = nw := by omega
          have hfull : RW.take j = RW := List.take_of_length_le (by rw [HRWL.out]; exact Nat.le_refl _)
          rw [hfull] at S
          clear hfull
          obtain ⟨la, ln, lc, rfl⟩ := S.slc 0 rfl
          have x2 := (S.blk 1 rfl).cell 3 rfl
          have SC := (S.alloc (cs := #[.slice la ln lc]) (ty := 33)).sel [3, 1, 2, 5, 6, 7]
          go_wp2_with (at_builtin; refine st1_StringSS SC rfl rfl rfl rfl cell_a1 (one_mem rfl) hlm ?_; intro ja jn' jc' w9 S9; have x9 := (S9.blk 1 rfl).cell 3 rfl; have cf := (S9.blk 1 rfl).free)
          go_roundw
          case rel => exact ⟨k + 1, _, by omega, by go_num, by rw [HST.out]; exact ((S9.sel [1, 0, 2, 3, 4]).set 3 (.slice ja jn' jc'))⟩
          case measure => simp [intOf]; omega
        obtain ⟨la, ln, lc, rfl⟩ := S.slc 0 rfl
        have hjw : 1 + j < WD.length := by have := HNW.out; omega
        obtain ⟨u, hu⟩ : ∃ u, u = WD.getD (1 + j) [] := ⟨_, rfl⟩
        have hu3 : u.length ≤ 30000 := by rw [hu]; exact HWL.out _ (getD_mem hjw)
        have y1 := (S.blk 3 rfl).cell (1 + j) (v := .string (mkB u)) (by rw [hu]; exact strsV_get WD (1 + j) hjw)
        have hst2 : RW.take (j + 1) = RW.take j ++ [outW u] := by
          have hk2 : j < RW.length := by rw [HRWL.out]; exact hjl
          rw [List.take_succ_eq_append_getElem hk2]
          congr 2
          have e : RW[j]? = some (outW u) := by
            rw [HRW.out, List.getElem?_map, List.getElem?_drop, hu, List.getD_eq_getElem?_getD, List.getElem?_eq_getElem hjw]
            rfl
          rw [List.getElem?_eq_getElem hk2] at e
          exact Option.some.inj e
        have hll : (RW.take j).length ≤ 1000000000000 := by rw [List.length_take]; omega
        have z1 : (0 : Int) ≤ (j : Int) := by omega
        have z2 : (j : Int) < (nw : Int) := by omega
        by_cases hd : u = [45]
        · have e1 : outW u = ⟨#[]⟩ := by unfold outW; rw [if_pos hd]; rfl
          rw [e1] at hst2
          have HST2 := Lib.hid hst2
          obtain ⟨u2, hu2⟩ : ∃ x, x = mkB u := ⟨_, rfl⟩
          have tD : (u2.toList == [45]) = true := by rw [hu2, hd, mkB_toList]; rfl
          rw [← hu2] at y1
          have HSZ := Lib.hid (show (⟨#[]⟩ : ByteArray).size ≤ maxLen by decide)
          clear hjw hu hu3 hst2 hu2 hd e1
          have SA := ((S.alloc (cs := #[.string ⟨#[]⟩]) (ty := 9)).str (x := ⟨#[]⟩) HSZ.out).sel [2, 0, 3, 4, 5, 6, 7, 8]
          go_wp2_with (at_builtin; refine st1_StringS SA rfl rfl rfl rfl cell_a1 (one_mem rfl) hll ?_; intro ta tn tc w11 S11)
          go_roundw
          case rel => exact ⟨j + 1, _, by omega, rfl, by go_num, by rw [HST2.out]; exact S11⟩
          case measure => simp [intOf]; omega
        · have e1 : outW u = mkB u := by unfold outW; rw [if_neg hd]
          rw [e1] at hst2
          obtain ⟨u2, hu2⟩ : ∃ x, x = mkB u := ⟨_, rfl⟩
          have tD : (u2.toList == [45]) = false := by rw [hu2, mkB_toList, beq_eq_false_iff_ne]; exact hd
          have hsz : u2.size ≤ maxLen := by rw [hu2, mkB_size]; simp only [maxLen]; omega
          rw [← hu2] at y1 hst2
          have HST2 := Lib.hid hst2
          have HSZ := Lib.hid hsz
          clear hjw hu hu3 hst2 hu2 hd e1 hsz
          have SA := ((S.alloc (cs := #[.string u2]) (ty := 9)).str (x := u2) HSZ.out).sel [2, 0, 3, 4, 5, 6, 7, 8]
          go_wp2_with (at_builtin; refine st1_StringS SA rfl rfl rfl rfl cell_a1 (one_mem rfl) hll ?_; intro ta tn tc w11 S11)
          go_roundw
          case rel => exact ⟨j + 1, _, by omega, rfl, by go_num, by rw [HST2.out]; exact S11⟩
          case measure => simp [intOf]; omega

end Go.Proofs.YtodoghidckelcaaGreatDoor
