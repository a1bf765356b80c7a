/-
  A writer read by the reference.
-/
import Derived.Test.YtodoghidckelcaaGreatDoorRwS4K
import Derived.Test.YtodoghidckelcaaGreatDoorRwP2K
import Derived.Test.YtodoghidckelcaaGreatDoorRwWK
import Derived.Test.YtodoghidckelcaaGreatDoorToldK
namespace Go.Proofs.YtodoghidckelcaaGreatDoor
open Go.RowKit Go.PlainAid

theorem drop_take_snocG (l : List (List UInt8)) (a i : Nat) (h1 : a ≤ i) (hi : i < l.length) : (l.drop a).take (i + 1 - a) = (l.drop a).take (i - a) ++ [l.getD i []] := by
  obtain ⟨k, rfl⟩ : ∃ k, i = a + k := ⟨i - a, by omega⟩
  have hk : k < (l.drop a).length := by rw [List.length_drop]; omega
  rw [show a + k + 1 - a = k + 1 by omega, List.take_succ_eq_append_getElem hk, Nat.add_sub_cancel_left]
  congr 2
  have e : (l.drop a)[k]? = some (l.getD (a + k) []) := by
    rw [List.getElem?_drop, List.getD_eq_getElem?_getD, List.getElem?_eq_getElem hi]
    rfl
  rw [List.getElem?_eq_getElem hk] at e
  exact Option.some.inj e

theorem nl_snoc (l : List (List UInt8)) (k : Nat) (h : k < l.length) : (l.take (k + 1)).flatMap nl = (l.take k).flatMap nl ++ (l.getD k [] ++ [10]) := by
  rw [List.take_succ_eq_append_getElem h, List.flatMap_append, List.getD_eq_getElem?_getD, List.getElem?_eq_getElem h]
  simp [nl]

set_option maxHeartbeats 8000000 in
set_option maxRecDepth 100000 in
theorem specReadWriter_any (s : List UInt8) (w : World) (hs : s.length ≤ 1048576) :
    Calls Tryz.prog 4 #[.string (mkB s)] w (MakesC writE (readW s) w) := by
  have S := (Star.nil w).alloc (cs := #[.int .i64 0, .int .i64 0, .slice none 0 0, .slice none 0 0]) (ty := 27)
  obtain ⟨RES, hRES⟩ : ∃ x, x = readW s := ⟨_, rfl⟩
  obtain ⟨T, hTT⟩ : ∃ T, T = mkB s := ⟨_, rfl⟩
  by_cases hbig : 20000 < s.length
  · have hr : readW s = (noWrit, 2) := by unfold readW; rw [if_pos hbig]
    rw [← hRES] at hr ⊢
    have HRES2 := Lib.hid hr
    rw [← hTT]
    have t1 : (20000 : Int) < (T.size : Int) := by rw [hTT, mkB_size]; omega
    clear hr hTT hbig hs hRES
    go_enter Tryz.func4, Tryz.ntmps4
    go_upto_region 1 with fail
    generalize hW : w.alloc _ = w0 at S ⊢
    clear hW
    obtain ⟨g2, hg⟩ : ∃ g, g = w.heap.size := ⟨_, rfl⟩
    rw [← hg] at S ⊢
    clear hg
    have z0 := (S.blk 0 rfl).cell 0 rfl
    have z1 := (S.blk 0 rfl).cell 1 rfl
    have z2 := (S.blk 0 rfl).cell 2 rfl
    have z3 := (S.blk 0 rfl).cell 3 rfl
    have zf := (S.blk 0 rfl).free
    go_wp2
    generalize hW : (((World.setCell _ _ _).setCell _ _).setCell _ _).setCell _ _ = w20
    have S9 : Star w w20 [oB g2 [.int .i64 0, .int .i64 0, .slice none 0 0, .slice none 0 0] 27] := hW ▸ ((((S.sel [0]).set 0 _).set 1 _).set 2 _).set 3 _
    have q0 := (S9.blk 0 rfl).cell 0 rfl
    have q1 := (S9.blk 0 rfl).cell 1 rfl
    have q2 := (S9.blk 0 rfl).cell 2 rfl
    have q3 := (S9.blk 0 rfl).cell 3 rfl
    exact bodyPost_ret (v := .tuple #[.agg #[.int .i64 0, .int .i64 0, .slice none 0 0, .slice none 0 0], .int .i64 2]) (by simp [results, Tryz.results4, go_sem, q0, q1, q2, q3]) rfl (by rw [HRES2.out]; exact (S9.flat (ow_noWrit _)).done)
  have h20 : s.length ≤ 20000 := by omega
  have HNO := Lib.hid (fun h => show RES = (noWrit, 5) from hRES.trans (readW_no h20 h))
  have HYES := Lib.hid (fun H V => show RES = (witS s, 0) from hRES.trans (readW_yes H V))
  have HSL := Lib.hid (fun w' => l01Split_any 10 10 rfl s w' hs)
  have hl0 : 0 < (splitL 10 s).length := List.length_pos_iff.2 (splitL_ne 10 s)
  have hll := splitL_len 10 s
  have hle : ∀ x, x ∈ splitL 10 s → x.length ≤ 20000 := fun x hx => by have := splitL_le 10 s x hx; omega
  have HLE := Lib.hid hle
  have t1 : ¬ (20000 : Int) < (T.size : Int) := by rw [hTT, mkB_size]; omega
  rw [← hTT] at HSL ⊢
  rw [← hRES]
  have hlb : (splitL 10 s).length ≤ 20001 := by omega
  have HNJ := Lib.hid (fun k (h : k < (splitL 10 s).length) => show (((splitL 10 s).take k).flatMap nl).length ≤ 20000 from by
    have := nl_join (splitL 10 s) k h
    rw [splitL_join] at this
    omega)
  have HRT := Lib.hid (fun w' => specReadTurner_any (headS s) w' (Nat.le_trans headS_le hs))
  obtain ⟨⟨tt, cd⟩, hRT⟩ : ∃ x : Turner × Int, x = readT (headS s) := ⟨_, rfl⟩
  rw [← hRT] at HRT
  have hcd : cd = (readT (headS s)).2 := by rw [← hRT]
  have htt : tt = (readT (headS s)).1 := by rw [← hRT]
  have HCD := Lib.hid hcd; have HTT := Lib.hid htt
  have HL0 := Lib.hid hl0; have HLB := Lib.hid hlb
  clear hs hbig hRES hTT hll hle h20 hl0 hlb hRT hcd htt
  go_enter Tryz.func4, Tryz.ntmps4
  go_upto_region 1 with fail
  generalize hW : w.alloc _ = w0 at S ⊢
  clear hW
  obtain ⟨g2, hg⟩ : ∃ g, g = w.heap.size := ⟨_, rfl⟩
  rw [← hg] at S ⊢
  clear hg
  go_wp2_with fail
  refine (HSL.out w0).mono ?_
  rintro e w1 ⟨v1, f1, rfl, o1, nd1, lo1, b1⟩
  replace S := S.made o1 nd1 lo1 b1
  clear o1 nd1 lo1 b1 HSL
  obtain ⟨lb, lo, ln, lc, rfl, hln⟩ := strs_slc S 0 rfl HL0.out
  have HLN := Lib.hid hln
  have l0 : (0 : Int) < (ln : Int) := by have := HL0.out; omega
  have l0n : 0 < ln := by have := HL0.out; omega
  have hlnb : ln ≤ 20001 := by have := HLB.out; omega
  clear hln
  obtain ⟨hf, hhf⟩ : ∃ u : Nat, u = ln / 2 := ⟨_, rfl⟩
  obtain ⟨pv, hpv⟩ : ∃ v : Nat, v = ln % 2 := ⟨_, rfl⟩
  have qq1 : (ln : Int).tdiv 2 = (hf : Int) := by rw [show (ln : Int).tdiv 2 = ((ln / 2 : Nat) : Int) from rfl, ← hhf]
  have qq2 : (ln : Int) / 2 = (hf : Int) := by rw [hhf]; rfl
  have rr1 : (ln : Int).tmod 2 = (pv : Int) := by rw [show (ln : Int).tmod 2 = ((ln % 2 : Nat) : Int) from rfl, ← hpv]
  have rr2 : (ln : Int) % 2 = (pv : Int) := by rw [hpv]; rfl
  have wu : IntKind.i64.wrap (hf : Int) = (hf : Int) := IntWalk.i64_in _ ⟨by omega, by omega⟩
  have wv : IntKind.i64.wrap (pv : Int) = (pv : Int) := IntWalk.i64_in _ ⟨by omega, by omega⟩
  have HHF := Lib.hid (show halfS s = hf by unfold halfS; rw [← HLN.out, hhf])
  have HPV := Lib.hid hpv
  have hhf1 : hf ≤ ln := by omega
  have hhfe : pv = 0 → hf + hf = ln := by omega
  have HHE := Lib.hid hhfe
  clear hhf hpv hhfe
  by_cases c1 : pv = 0
  case neg =>
    have hr := HNO.out (fun h => c1 (by rw [HPV.out, HLN.out]; exact h.1.p))
    have HR := Lib.hid hr
    have tP : ((pv : Int) == 0) = false := by rw [beq_eq_false_iff_ne]; omega
    clear hr HNO HYES HRT tP
    have z0 := (S.blk 1 rfl).cell 0 rfl
    have z1 := (S.blk 1 rfl).cell 1 rfl
    have z2 := (S.blk 1 rfl).cell 2 rfl
    have z3 := (S.blk 1 rfl).cell 3 rfl
    have zf := (S.blk 1 rfl).free
    go_wp2
    generalize hW : (((World.setCell _ _ _).setCell _ _).setCell _ _).setCell _ _ = w20
    have S9 : Star w w20 [oB g2 [.int .i64 0, .int .i64 0, .slice none 0 0, .slice none 0 0] 27] := hW ▸ ((((S.sel [1]).set 0 _).set 1 _).set 2 _).set 3 _
    have q0 := (S9.blk 0 rfl).cell 0 rfl
    have q1 := (S9.blk 0 rfl).cell 1 rfl
    have q2 := (S9.blk 0 rfl).cell 2 rfl
    have q3 := (S9.blk 0 rfl).cell 3 rfl
    exact bodyPost_ret (v := .tuple #[.agg #[.int .i64 0, .int .i64 0, .slice none 0 0, .slice none 0 0], .int .i64 5]) (by simp [results, Tryz.results4, go_sem, q0, q1, q2, q3]) rfl (by rw [HR.out]; exact (S9.flat (ow_noWrit _)).done)
  have tP : ((pv : Int) == 0) = true := by rw [beq_iff_eq]; omega
  have he2 := HHE.out c1
  have HP0 := Lib.hid (show (splitL 10 s).length % 2 = 0 by rw [← HLN.out, ← HPV.out]; exact c1)
  clear tP
  obtain ⟨p, hp⟩ : ∃ p, p + 1 = ln := ⟨ln - 1, by omega⟩
  have wp : IntKind.i64.wrap ((ln : Int) - 1) = (p : Int) := by rw [IntWalk.i64_in _ ⟨by omega, by omega⟩]; omega
  have p0 : (0 : Int) ≤ (p : Int) := by omega
  have p1 : (p : Int) < (ln : Int) := by omega
  have pn : p < ln := by omega
  have y1 := strs_at S 0 rfl p (by rw [← HLN.out]; exact pn)
  obtain ⟨Y1, hY1⟩ : ∃ y, y = mkB ((splitL 10 s).getD p []) := ⟨_, rfl⟩
  rw [← hY1] at y1
  have hpe : (splitL 10 s).length - 1 = p := by rw [← HLN.out]; omega
  by_cases c4 : (splitL 10 s).getD p [] = []
  case neg =>
    have hr := HNO.out (fun h => c4 (by have := h.1.e; rwa [hpe] at this))
    have HR := Lib.hid hr
    have tE : (Y1.toList == []) = false := by rw [hY1, mkB_toList, beq_eq_false_iff_ne]; exact c4
    clear hr HNO HYES hY1 hpe c4 HRT hp he2
    have z0 := (S.blk 1 rfl).cell 0 rfl
    have z1 := (S.blk 1 rfl).cell 1 rfl
    have z2 := (S.blk 1 rfl).cell 2 rfl
    have z3 := (S.blk 1 rfl).cell 3 rfl
    have zf := (S.blk 1 rfl).free
    go_wp2
    generalize hW : (((World.setCell _ _ _).setCell _ _).setCell _ _).setCell _ _ = w20
    have S9 : Star w w20 [oB g2 [.int .i64 0, .int .i64 0, .slice none 0 0, .slice none 0 0] 27] := hW ▸ ((((S.sel [1]).set 0 _).set 1 _).set 2 _).set 3 _
    have q0 := (S9.blk 0 rfl).cell 0 rfl
    have q1 := (S9.blk 0 rfl).cell 1 rfl
    have q2 := (S9.blk 0 rfl).cell 2 rfl
    have q3 := (S9.blk 0 rfl).cell 3 rfl
    exact bodyPost_ret (v := .tuple #[.agg #[.int .i64 0, .int .i64 0, .slice none 0 0, .slice none 0 0], .int .i64 5]) (by simp [results, Tryz.results4, go_sem, q0, q1, q2, q3]) rfl (by rw [HR.out]; exact (S9.flat (ow_noWrit _)).done)
  have tE : (Y1.toList == []) = true := by rw [hY1, mkB_toList, c4]; rfl
  have C4 := Lib.hid (show (splitL 10 s).getD ((splitL 10 s).length - 1) [] = [] by rw [hpe]; exact c4)
  clear c4 hY1 hpe hp
  have HE2 := Lib.hid he2
  clear he2
  go_wp2
  clear c1 y1 tE wp p0 p1 pn qq1 qq2 rr1 rr2 wu wv
  go_loopw [6, 7] (fun vh vi wr => ∃ (k : Nat) (H : ByteArray), k ≤ hf ∧ vh = .string H ∧ vi = .int .i64 k ∧ Hid (H = mkB (((splitL 10 s).take k).flatMap nl)) ∧ Star w wr [oE strsE [.slice (some ⟨lb, lo, none⟩) ln lc] ((splitL 10 s).map mkB), oB g2 [.int .i64 0, .int .i64 0, .slice none 0 0, .slice none 0 0] 27]) (fun _ vi _ => hf - (intOf vi).toNat)
  case atStart => exact ⟨0, _, by omega, rfl, rfl, Lib.hid rfl, S⟩
  case round =>
    clear S
    obtain ⟨k, H, hk, rfl, rfl, HH, S⟩ := hrel
    have he2 := HE2.out
    by_cases hlt : k < hf
    case pos =>
      have hkl : k < (splitL 10 s).length := by rw [← HLN.out]; omega
      have x1 := strs_at S 0 rfl k hkl
      have hxl := HLE.out _ (getD_mem hkl)
      have hHs : H.size ≤ 20000 := by rw [HH.out, mkB_size]; exact HNJ.out k hkl
      obtain ⟨X, hX⟩ : ∃ X, X = mkB ((splitL 10 s).getD k []) := ⟨_, rfl⟩
      rw [← hX] at x1
      have hXs : X.size ≤ 20000 := by rw [hX, mkB_size]; exact hxl
      have hnx : H ++ (X ++ ⟨#[10]⟩) = mkB (((splitL 10 s).take (k + 1)).flatMap nl) := by
        rw [nl_snoc _ k hkl, mkB_app, mkB_app, ← HH.out, ← hX]
        rfl
      have HNX := Lib.hid hnx
      have hX1 : (X ++ (⟨#[10]⟩ : ByteArray)).size = X.size + 1 := by rw [ByteArray.size_append]; rfl
      have i0 : (0 : Int) ≤ (k : Int) := by omega
      have i2 : (k : Int) < (ln : Int) := by omega
      have i3 : (k : Int) < (hf : Int) := by omega
      have wk : IntKind.i64.wrap ((k : Int) + 1) = (k : Int) + 1 := IntWalk.i64_in _ ⟨by omega, by omega⟩
      clear hkl hxl hX hnx
      go_wp2
      go_roundw
      case rel => exact ⟨k + 1, _, by omega, rfl, by go_num, HNX, S⟩
      case measure => simp [intOf]; omega
    obtain rfl : hf = k := by omega
    have hh : H = mkB (headS s) := by rw [HH.out]; unfold headS; rw [HHF.out]
    have i3 : ¬ (hf : Int) < (hf : Int) := by omega
    have HRT2 := Lib.hid (fun w' => show Calls Tryz.prog 10 #[.string H] w' (MakesC turnE (tt, cd) w') from by rw [hh]; exact HRT.out w')
    clear hh HH HRT hlt HNJ
    go_wp2_with fail
    refine (HRT2.out wr).mono ?_
    rintro e w3 ⟨cs, f, rfl, o', nd, lo', b3⟩
    obtain ⟨tv, rfl, -, -, h2⟩ := rd_Turner (turnE.rd_ow o')
    obtain ⟨ta, tn, tc, rfl⟩ := rd_slice h2
    replace S := (S.made o' nd lo' b3).alloc (cs := #[.int .i64 tt.letters, .int .i64 tt.start, .slice ta tn tc]) (ty := 24)
    clear o' nd lo' b3 h2 HRT2
    go_upto_region 13 with fail
    generalize hW : w3.alloc _ = w4 at S ⊢
    obtain ⟨g8, hg8⟩ : ∃ g, g = w3.heap.size := ⟨_, rfl⟩
    rw [← hg8] at S ⊢
    clear hW hg8
    try dsimp only
    by_cases c6 : cd = 0
    case neg =>
      have hr := HNO.out (fun h => c6 (by rw [HCD.out]; exact h.1.t))
      have HR := Lib.hid hr
      have tC : (cd == 0) = false := by rw [beq_eq_false_iff_ne]; exact c6
      clear hr HNO HYES c6
      have z0 := (S.blk 3 rfl).cell 0 rfl
      have z1 := (S.blk 3 rfl).cell 1 rfl
      have z2 := (S.blk 3 rfl).cell 2 rfl
      have z3 := (S.blk 3 rfl).cell 3 rfl
      have zf := (S.blk 3 rfl).free
      go_wp2
      generalize hW : (((World.setCell _ _ _).setCell _ _).setCell _ _).setCell _ _ = w20
      have S9 : Star w w20 [oB g2 [.int .i64 0, .int .i64 0, .slice none 0 0, .slice none 0 0] 27] := hW ▸ ((((S.sel [3]).set 0 _).set 1 _).set 2 _).set 3 _
      have q0 := (S9.blk 0 rfl).cell 0 rfl
      have q1 := (S9.blk 0 rfl).cell 1 rfl
      have q2 := (S9.blk 0 rfl).cell 2 rfl
      have q3 := (S9.blk 0 rfl).cell 3 rfl
      exact bodyPost_ret (v := .tuple #[.agg #[.int .i64 0, .int .i64 0, .slice none 0 0, .slice none 0 0], .int .i64 5]) (by simp [results, Tryz.results4, go_sem, q0, q1, q2, q3]) rfl (by rw [HR.out]; exact (S9.flat (ow_noWrit _)).done)
    have tC : (cd == 0) = true := beq_iff_eq.2 c6
    have HT0 := Lib.hid (show (readT (headS s)).2 = 0 by rw [← HCD.out]; exact c6)
    clear c6
    have b0 := (S.blk 0 rfl).cell 0 rfl
    have b1 := (S.blk 0 rfl).cell 1 rfl
    have b2 := (S.blk 0 rfl).cell 2 rfl
    go_upto_region 16 with fail
    clear b0 b1 b2
    replace S := S.alloc (cs := #[.int .i64 tt.letters, .int .i64 tt.start, .slice ta tn tc, .slice none 0 0]) (ty := 27)
    generalize hW : w4.alloc _ = w5 at S ⊢
    obtain ⟨gb, hgb⟩ : ∃ g, g = w4.heap.size := ⟨_, rfl⟩
    rw [← hgb] at S ⊢
    clear hW hgb
    replace S := (S.nils strsE 33).sel [1, 0, 3, 4, 5]
    clear tC i3
    go_wp2
    go_loopw [11] (fun vi wr => ∃ (i : Nat) (v : Value), hf ≤ i ∧ i + 1 ≤ ln ∧ vi = .int .i64 i ∧ Hid (∀ k, hf + k < i → orowOkS ((splitL 10 s).getD (hf + k) []) = true) ∧ Star w wr [oB gb [.int .i64 tt.letters, .int .i64 tt.start, .slice ta tn tc, v] 27, oE strssE [v] ((((splitL 10 s).drop hf).take (i - hf)).map orowT), oE turnE [.int .i64 tt.letters, .int .i64 tt.start, .slice ta tn tc] tt, oE strsE [.slice (some ⟨lb, lo, none⟩) ln lc] ((splitL 10 s).map mkB), oB g2 [.int .i64 0, .int .i64 0, .slice none 0 0, .slice none 0 0] 27]) (fun vi _ => ln - (intOf vi).toNat)
    case atStart => exact ⟨hf, _, by omega, by omega, rfl, Lib.hid (fun k hk => by omega), by rw [Nat.sub_self]; exact S⟩
    case round =>
      clear S
      obtain ⟨i, v, hi1, hil, rfl, HR0, S⟩ := hrel
      obtain ⟨va, vn, vc, rfl⟩ := S.slc 1 rfl
      have wi : IntKind.i64.wrap ((i : Int) + 1) = (i : Int) + 1 := IntWalk.i64_in _ ⟨by omega, by omega⟩
      by_cases hlt : i + 1 < ln
      case neg =>
        have hie : i - hf = ln - 1 - hf := by omega
        have t9 : ¬ (i : Int) + 1 < (ln : Int) := by omega
        have HGW := Lib.hid (show GoodW s from ⟨HP0.out, C4.out, HT0.out, fun k hk => by
          rw [HHF.out] at hk ⊢
          rw [← HLN.out] at hk
          exact HR0.out k (by omega)⟩)
        have hwt : witS s = ⟨tt, (((splitL 10 s).drop hf).take (i - hf)).map orowT⟩ := by
          unfold witS
          rw [HHF.out, ← HLN.out, hie, ← HTT.out]
        obtain ⟨OS, hOS⟩ : ∃ x, x = (((splitL 10 s).drop hf).take (i - hf)).map orowT := ⟨_, rfl⟩
        rw [← hOS] at hwt S
        obtain ⟨v2', hcs, -, -, hm⟩ := rd_Turner (S.rd 2 rfl)
        obtain rfl : (Value.slice ta tn tc) = v2' := by simpa using hcs
        have HOK := Lib.hid (fun b (hb : writerOk ⟨tt, OS⟩ = b) => l07Ok_is b _ _ ⟨tt, OS⟩ wr.heap.size gb wr (Nat.le_refl _) (S.blk 0 rfl) hm (S.rd 1 rfl) hb)
        have HWT := Lib.hid hwt
        clear hwt hOS hcs hm hie wi hlt HR0
        cases hv : writerOk ⟨tt, OS⟩ with
        | false =>
          have hr := HNO.out (fun h => by have h2 := h.2; rw [HWT.out, hv] at h2; cases h2)
          have HR := Lib.hid hr
          have HOK2 := Lib.hid (HOK.out false hv)
          clear hr hv HOK HNO HYES
          go_wp2_with fail
          refine HOK2.out.mono ?_
          rintro e w12 ⟨rfl, b12⟩
          replace S := S.step b12
          clear b12 HOK2
          have z0 := (S.blk 4 rfl).cell 0 rfl
          have z1 := (S.blk 4 rfl).cell 1 rfl
          have z2 := (S.blk 4 rfl).cell 2 rfl
          have z3 := (S.blk 4 rfl).cell 3 rfl
          have zf := (S.blk 4 rfl).free
          go_wp2
          generalize hW : (((World.setCell _ _ _).setCell _ _).setCell _ _).setCell _ _ = w20
          have S9 : Star w w20 [oB g2 [.int .i64 0, .int .i64 0, .slice none 0 0, .slice none 0 0] 27] := hW ▸ ((((S.sel [4]).set 0 _).set 1 _).set 2 _).set 3 _
          have q0 := (S9.blk 0 rfl).cell 0 rfl
          have q1 := (S9.blk 0 rfl).cell 1 rfl
          have q2 := (S9.blk 0 rfl).cell 2 rfl
          have q3 := (S9.blk 0 rfl).cell 3 rfl
          exact bodyPost_ret (v := .tuple #[.agg #[.int .i64 0, .int .i64 0, .slice none 0 0, .slice none 0 0], .int .i64 5]) (by simp [results, Tryz.results4, go_sem, q0, q1, q2, q3]) rfl (by rw [HR.out]; exact (S9.flat (ow_noWrit _)).done)
        | true =>
          have hr := HYES.out HGW.out (by rw [HWT.out]; exact hv)
          rw [HWT.out] at hr
          have HR := Lib.hid hr
          have HOK2 := Lib.hid (HOK.out true hv)
          clear hr hv HOK HNO HYES
          go_wp2_with fail
          refine HOK2.out.mono ?_
          rintro e w12 ⟨rfl, b12⟩
          replace S := S.step b12
          clear b12 HOK2
          have f0 := (S.blk 0 rfl).cell 0 rfl
          have f1 := (S.blk 0 rfl).cell 1 rfl
          have f2 := (S.blk 0 rfl).cell 2 rfl
          have f3 := (S.blk 0 rfl).cell 3 rfl
          have z0 := (S.blk 4 rfl).cell 0 rfl
          have z1 := (S.blk 4 rfl).cell 1 rfl
          have z2 := (S.blk 4 rfl).cell 2 rfl
          have z3 := (S.blk 4 rfl).cell 3 rfl
          have zf := (S.blk 4 rfl).free
          go_wp2
          generalize hW : (((World.setCell _ _ _).setCell _ _).setCell _ _).setCell _ _ = w20
          have S9 : Star w w20 [oB g2 [.int .i64 tt.letters, .int .i64 tt.start, .slice ta tn tc, .slice va vn vc] 27, oE turnE [.int .i64 tt.letters, .int .i64 tt.start, .slice ta tn tc] tt, oE strssE [.slice va vn vc] OS] := hW ▸ ((((S.sel [4, 2, 1]).set 0 _).set 1 _).set 2 _).set 3 _
          have q0 := (S9.blk 0 rfl).cell 0 rfl
          have q1 := (S9.blk 0 rfl).cell 1 rfl
          have q2 := (S9.blk 0 rfl).cell 2 rfl
          have q3 := (S9.blk 0 rfl).cell 3 rfl
          exact bodyPost_ret (v := .tuple #[.agg #[.int .i64 tt.letters, .int .i64 tt.start, .slice ta tn tc, .slice va vn vc], .int .i64 0]) (by simp [results, Tryz.results4, go_sem, q0, q1, q2, q3]) rfl (by rw [HR.out]; exact (writ_owR (x := ⟨tt, OS⟩) (S9.sel [1, 2])).done)
      have t9 : (i : Int) + 1 < (ln : Int) := by omega
      have hkl : i < (splitL 10 s).length := by rw [← HLN.out]; omega
      obtain ⟨U, hU⟩ : ∃ U, U = (splitL 10 s).getD i [] := ⟨_, rfl⟩
      have x1 := strs_at S 3 rfl i hkl
      have hU3 := HLE.out _ (getD_mem hkl)
      rw [← hU] at x1 hU3
      have hst : (((splitL 10 s).drop hf).take (i + 1 - hf)).map orowT = (((splitL 10 s).drop hf).take (i - hf)).map orowT ++ [orowT U] := by
        rw [drop_take_snocG _ hf i hi1 hkl, List.map_append, ← hU]; rfl
      have hlm : ((((splitL 10 s).drop hf).take (i - hf)).map orowT).length ≤ 1000000000000 := by rw [List.length_map, List.length_take]; omega
      have HST := Lib.hid hst
      have HSU := Lib.hid (fun w' => l01Split_any 32 32 rfl U w' (by omega))
      have hw0 : 0 < (splitL 32 U).length := List.length_pos_iff.2 (splitL_ne 32 U)
      have hwl : ∀ x, x ∈ splitL 32 U → x.length ≤ 20000 := fun x hx => by have := splitL_le 32 U x hx; omega
      have hwb : (splitL 32 U).length ≤ 1048577 := by have := splitL_len 32 U; omega
      have HROW := Lib.hid (show orowT U = ((splitL 32 U).drop 1).map outW from rfl)
      have HOKS := Lib.hid (show orowOkS U = (decide ((splitL 32 U).getD 0 [] = outO) && ((splitL 32 U).drop 1).all fun w => decide (w ≠ [])) from rfl)
      obtain ⟨WD, hWD⟩ : ∃ x, x = splitL 32 U := ⟨_, rfl⟩
      rw [← hWD] at HSU hw0 hwl hwb HROW HOKS
      have HWL := Lib.hid hwl; have HW0 := Lib.hid hw0
      have hbad : orowOkS U = false → ¬ (GoodW s ∧ writerOk (witS s) = true) := fun hf' h => by
        have h2 := h.1.r (i - hf) (by rw [HHF.out, ← HLN.out]; omega)
        rw [HHF.out, show hf + (i - hf) = i by omega, ← hU, hf'] at h2
        cases h2
      have HBAD := Lib.hid (fun hf' => HNO.out (hbad hf'))
      have hnext : orowOkS U = true → ∀ k, hf + k < i + 1 → orowOkS ((splitL 10 s).getD (hf + k) []) = true := fun hf' k hk => by
        by_cases hki : hf + k < i
        · exact HR0.out k hki
        · rw [show hf + k = i by omega, ← hU]; exact hf'
      have HNX := Lib.hid hnext
      obtain ⟨U2, hU2⟩ : ∃ x, x = mkB U := ⟨_, rfl⟩
      rw [← hU2] at x1 HSU
      have i0 : (0 : Int) ≤ (i : Int) := by omega
      have i2 : (i : Int) < (ln : Int) := by omega
      clear hkl hst hU hU3 hWD hwl hbad hnext hU2
      go_wp2_with fail
      clear x1
      refine (HSU.out wr).mono ?_
      rintro e w6 ⟨v5, f5, rfl, o5, nd5, lo5, b5⟩
      replace S := S.made o5 nd5 lo5 b5
      clear o5 nd5 lo5 b5 HSU
      obtain ⟨wb, wo, wn, wc, rfl, hwn⟩ := strs_slc S 0 rfl HW0.out
      have HWN := Lib.hid hwn
      have wn0 : (0 : Int) < (wn : Int) := by rw [hwn]; omega
      have wn0n : 0 < wn := by rw [hwn]; omega
      have wnb : wn ≤ 1048577 := by rw [hwn]; exact hwb
      clear hwn hwb hw0
      have x1 := strs_at S 0 rfl 0 HW0.out
      obtain ⟨X1, hX1⟩ : ∃ x, x = mkB (WD.getD 0 []) := ⟨_, rfl⟩
      rw [← hX1, Nat.add_zero] at x1
      by_cases c7 : WD.getD 0 [] = outO
      case neg =>
        have hr := HBAD.out (by rw [HOKS.out, decide_eq_false c7]; rfl)
        have HR := Lib.hid hr
        have tS : (X1.toList == [111, 117, 116]) = false := by rw [hX1, mkB_toList, beq_eq_false_iff_ne]; exact c7
        clear hr hX1 c7 HNO HYES
        have z0 := (S.blk 5 rfl).cell 0 rfl
        have z1 := (S.blk 5 rfl).cell 1 rfl
        have z2 := (S.blk 5 rfl).cell 2 rfl
        have z3 := (S.blk 5 rfl).cell 3 rfl
        have zf := (S.blk 5 rfl).free
        go_wp2
        generalize hW : (((World.setCell _ _ _).setCell _ _).setCell _ _).setCell _ _ = w20
        have S9 : Star w w20 [oB g2 [.int .i64 0, .int .i64 0, .slice none 0 0, .slice none 0 0] 27] := hW ▸ ((((S.sel [5]).set 0 _).set 1 _).set 2 _).set 3 _
        have q0 := (S9.blk 0 rfl).cell 0 rfl
        have q1 := (S9.blk 0 rfl).cell 1 rfl
        have q2 := (S9.blk 0 rfl).cell 2 rfl
        have q3 := (S9.blk 0 rfl).cell 3 rfl
        exact bodyPost_ret (v := .tuple #[.agg #[.int .i64 0, .int .i64 0, .slice none 0 0, .slice none 0 0], .int .i64 5]) (by simp [results, Tryz.results4, go_sem, q0, q1, q2, q3]) rfl (by rw [HR.out]; exact (S9.flat (ow_noWrit _)).done)
      have tS : (X1.toList == [111, 117, 116]) = true := by rw [hX1, mkB_toList, c7]; rfl
      have C7 := Lib.hid c7
      clear hX1 c7
      replace S := ((S.alloc (cs := #[]) (ty := 9)).lit0 (α := ByteArray) (E := strE))
      go_wp2
      generalize hW : w6.alloc _ = w8 at S ⊢
      clear hW x1 tS
      obtain ⟨g9, hg9⟩ : ∃ g, g = w6.heap.size := ⟨_, rfl⟩
      rw [← hg9] at S ⊢
      clear hg9
      go_loopw [13, 14] (fun vl vk wr => ∃ (k : Nat) (v2 : Value), 1 ≤ k ∧ k ≤ wn ∧ vl = v2 ∧ vk = .int .i64 k ∧ Hid (∀ x, x ∈ (WD.drop 1).take (k - 1) → x ≠ []) ∧ Star w wr [oE strsE [v2] (((WD.drop 1).take (k - 1)).map outW), oE strsE [.slice (some ⟨wb, wo, none⟩) wn wc] (WD.map mkB), oB gb [.int .i64 tt.letters, .int .i64 tt.start, .slice ta tn tc, .slice va vn vc] 27, oE strssE [.slice va vn vc] ((((splitL 10 s).drop hf).take (i - hf)).map orowT), oE turnE [.int .i64 tt.letters, .int .i64 tt.start, .slice ta tn tc] tt, oE strsE [.slice (some ⟨lb, lo, none⟩) ln lc] ((splitL 10 s).map mkB), oB g2 [.int .i64 0, .int .i64 0, .slice none 0 0, .slice none 0 0] 27]) (fun _ vk _ => wn - (intOf vk).toNat)
      case atStart => exact ⟨1, _, by omega, by omega, rfl, rfl, Lib.hid (by simp), S⟩
      case round =>
        clear S
        obtain ⟨k, v2, hk1, hk, rfl, rfl, HNE, S⟩ := hrel
        obtain ⟨la, lnn, lcc, rfl⟩ := S.slc 0 rfl
        by_cases hkl : k < wn
        case neg =>
          obtain rfl : k = wn := by omega
          have t10 : ¬ (k : Int) < (k : Int) := by omega
          have ht : (WD.drop 1).take (k - 1) = WD.drop 1 := List.take_of_length_le (by rw [List.length_drop, ← HWN.out]; exact Nat.le_refl _)
          rw [ht] at S HNE
          rw [← HROW.out] at S
          have HR1 := Lib.hid (HNX.out (by rw [HOKS.out, decide_eq_true C7.out]; exact List.all_eq_true.2 (fun x hx => decide_eq_true (HNE.out x hx))))
          clear ht HNE
          have x2 := (S.blk 2 rfl).cell 3 rfl
          have SC := (S.alloc (cs := #[.slice la lnn lcc]) (ty := 33)).sel [4, 1, 3, 5, 6, 7]
          go_wp2_with (at_builtin; refine st1_StringSS SC rfl rfl rfl rfl cell_a1 (one_mem rfl) hlm ?_; intro ja jn' jc' w9 S9; have x9 := (S9.blk 1 rfl).cell 3 rfl; have cf := (S9.blk 1 rfl).free)
          go_roundw
          case rel => exact ⟨i + 1, _, by omega, by omega, by go_num, HR1, by rw [HST.out]; exact ((S9.sel [1, 0, 2, 3, 4]).set 3 (.slice ja jn' jc'))⟩
          case measure => simp [intOf]; omega
        have t10 : (k : Int) < (wn : Int) := by omega
        have hkw : k < WD.length := by rw [← HWN.out]; exact hkl
        obtain ⟨u, hu⟩ : ∃ u, u = WD.getD k [] := ⟨_, rfl⟩
        have y1 := strs_at S 1 rfl k hkw
        have hu3 := HWL.out _ (getD_mem hkw)
        rw [← hu] at y1 hu3
        have hsn := drop_take_snoc WD k hk1 hkw
        rw [← hu] at hsn
        have hum : u ∈ WD.drop 1 := List.mem_of_mem_take (i := k) (by rw [hsn]; simp)
        have hst2 : ((WD.drop 1).take (k + 1 - 1)).map outW = ((WD.drop 1).take (k - 1)).map outW ++ [outW u] := by rw [Nat.add_sub_cancel, hsn, List.map_append]; rfl
        have hll : (((WD.drop 1).take (k - 1)).map outW).length ≤ 1000000000000 := by rw [List.length_map, List.length_take]; omega
        have k0 : (0 : Int) ≤ (k : Int) := by omega
        obtain ⟨u2, hu2⟩ : ∃ x, x = mkB u := ⟨_, rfl⟩
        rw [← hu2] at y1
        by_cases c8 : u = []
        · have hr := HBAD.out (by
            rw [HOKS.out, decide_eq_true C7.out, Bool.true_and]
            exact Bool.eq_false_iff.2 (fun h => absurd c8 (of_decide_eq_true (List.all_eq_true.1 h u hum))))
          have HR := Lib.hid hr
          have tX : (u2.toList == []) = true := by rw [hu2, c8, mkB_toList]; rfl
          clear hr hkw hu hu3 hsn hum hst2 hu2 c8 HNO HYES
          have z0 := (S.blk 6 rfl).cell 0 rfl
          have z1 := (S.blk 6 rfl).cell 1 rfl
          have z2 := (S.blk 6 rfl).cell 2 rfl
          have z3 := (S.blk 6 rfl).cell 3 rfl
          have zf := (S.blk 6 rfl).free
          go_wp2
          generalize hW : (((World.setCell _ _ _).setCell _ _).setCell _ _).setCell _ _ = w20
          have S9 : Star w w20 [oB g2 [.int .i64 0, .int .i64 0, .slice none 0 0, .slice none 0 0] 27] := hW ▸ ((((S.sel [6]).set 0 _).set 1 _).set 2 _).set 3 _
          have q0 := (S9.blk 0 rfl).cell 0 rfl
          have q1 := (S9.blk 0 rfl).cell 1 rfl
          have q2 := (S9.blk 0 rfl).cell 2 rfl
          have q3 := (S9.blk 0 rfl).cell 3 rfl
          exact bodyPost_ret (v := .tuple #[.agg #[.int .i64 0, .int .i64 0, .slice none 0 0, .slice none 0 0], .int .i64 5]) (by simp [results, Tryz.results4, go_sem, q0, q1, q2, q3]) rfl (by rw [HR.out]; exact (S9.flat (ow_noWrit _)).done)
        have tX : (u2.toList == []) = false := by rw [hu2, mkB_toList, beq_eq_false_iff_ne]; exact c8
        have HNE2 := Lib.hid (show ∀ x, x ∈ (WD.drop 1).take (k + 1 - 1) → x ≠ [] from fun x hx => by
          rw [Nat.add_sub_cancel, hsn] at hx
          rcases List.mem_append.1 hx with hx | hx
          · exact HNE.out x hx
          · rw [List.mem_singleton.1 hx]; exact c8)
        by_cases hd : u = [45]
        · have e1 : outW u = ⟨#[]⟩ := by unfold outW; rw [if_pos hd]; rfl
          rw [e1] at hst2
          have HST2 := Lib.hid hst2
          have tD : (u2.toList == [45]) = true := by rw [hu2, hd, mkB_toList]; rfl
          have HSZ := Lib.hid (show (⟨#[]⟩ : ByteArray).size ≤ maxLen by decide)
          clear hkw hu hu3 hsn hum hst2 hu2 c8 hd e1 HNE
          have SA := ((S.alloc (cs := #[.string ⟨#[]⟩]) (ty := 9)).str (x := ⟨#[]⟩) HSZ.out).sel [2, 0, 3, 4, 5, 6, 7, 8]
          go_wp2_with (at_builtin; refine st1_StringS SA rfl rfl rfl rfl cell_a1 (one_mem rfl) hll ?_; intro ja jn jc w11 S11)
          go_roundw
          case rel => exact ⟨k + 1, _, by omega, by omega, rfl, by go_num, HNE2, by rw [HST2.out]; exact S11⟩
          case measure => simp [intOf]; omega
        · have e1 : outW u = mkB u := by unfold outW; rw [if_neg hd]
          rw [e1, ← hu2] at hst2
          have HST2 := Lib.hid hst2
          have tD : (u2.toList == [45]) = false := by rw [hu2, mkB_toList, beq_eq_false_iff_ne]; exact hd
          have HSZ := Lib.hid (show u2.size ≤ maxLen by rw [hu2, mkB_size]; simp only [maxLen]; omega)
          clear hkw hu hu3 hsn hum hst2 hu2 c8 hd e1 HNE
          have SA := ((S.alloc (cs := #[.string u2]) (ty := 9)).str (x := u2) HSZ.out).sel [2, 0, 3, 4, 5, 6, 7, 8]
          go_wp2_with (at_builtin; refine st1_StringS SA rfl rfl rfl rfl cell_a1 (one_mem rfl) hll ?_; intro ja jn jc w11 S11)
          go_roundw
          case rel => exact ⟨k + 1, _, by omega, by omega, rfl, by go_num, HNE2, by rw [HST2.out]; exact S11⟩
          case measure => simp [intOf]; omega

end Go.Proofs.YtodoghidckelcaaGreatDoor
