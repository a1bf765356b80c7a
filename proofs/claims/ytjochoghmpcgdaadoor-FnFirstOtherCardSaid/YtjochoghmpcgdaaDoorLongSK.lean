/-
  LongestWritten of the specification.
-/
import Derived.Test.YtjochoghmpcgdaaDoorLongPK
import Derived.Test.YtjochoghmpcgdaaDoorSAllK
import Derived.Test.YtjochoghmpcgdaaDoorWrtSK
namespace Go.Proofs.YtjochoghmpcgdaaDoor
open Go.RowKit

theorem allW_at {c N k : Nat} (hk : k < (allW c N).length) : ((allW c N).map strW).getD k ByteArray.empty = strW ((allW c N)[k]'hk) := by
  rw [List.getD_eq_getElem?_getD, List.getElem?_map, List.getElem?_eq_getElem hk]; rfl

theorem strW_data (x : List UInt8) : (strW x).data.toList = x := rfl

theorem drop_at {α : Type} {l : List α} {k : Nat} (hk : k < l.length) : l.drop k = l[k] :: l.drop (k + 1) := List.drop_eq_getElem_cons hk

set_option maxHeartbeats 8000000 in
set_option maxRecDepth 100000 in
theorem slong_scan (u : Writer) (N c : Nat) (cu : List Value) (B : Nat) (w : World) (hB : B ≤ w.heap.size) (hu : writE.rd w B cu u) (hbu : writerOk u = true) (hcu : u.turner.letters = c) (hN : N ≤ 60) (T : (ByteArray × Int) × Int)
    (hT : (if 2000 < (allW c N).length then ((⟨#[]⟩, 0), 3) else longE (scanS u N (allW c N) (-1, ⟨#[]⟩))) = T) :
    Calls Tryd.prog 17 #[.agg cu.toArray, .int .i64 (N : Nat)] w (TxnIs T w) := by
  obtain ⟨u2, u3, rfl, a1, a2, a3, a4⟩ := rd_WriterF hu
  have hc : 1 ≤ c ∧ c ≤ 3 := by
    have K := (writOk_of hbu).t
    have h1 := K.l1
    have h3 := K.l3
    omega
  have S := (Star.nil w).alloc (cs := #[.int .i64 u.turner.letters, .int .i64 u.turner.start, u2, u3]) (ty := 30)
  have HL := Lib.hid (l07Ok_is true u2 u3 u B w.heap.size _ (Nat.le_trans hB S.below.size) (S.blk 0 rfl) (movessE.rd_of (S.below.mono hB) a3) (strssE.rd_of (S.below.mono hB) a4) hbu)
  have HUW := Lib.hid (rdWP_box (S.blk 0 rfl) (movessE.rd_of (S.below.mono hB) a3) (strssE.rd_of (S.below.mono hB) a4) hbu)
  have HCU := Lib.hid hcu; have HT := Lib.hid hT
  rw [hcu] at S HL HUW ⊢
  clear a1 a2 a3 a4 hu hbu hcu hT
  go_enter Tryd.func17, Tryd.ntmps17
  go_wp2_with fail
  generalize hW : w.alloc _ = w0 at S HUW HL ⊢
  clear hW
  obtain ⟨ga, hga⟩ : ∃ g, g = w.heap.size := ⟨_, rfl⟩
  rw [← hga] at S HUW HL ⊢
  have HB0 := Lib.hid S.below
  clear hga
  refine HL.out.mono ?_
  rintro e w2 ⟨rfl, b1⟩
  have S0 := (Star.nil w0).step b1
  replace S := S.step b1
  have x0 := (S.blk 0 rfl).cell 0 rfl
  clear b1 HL S
  have hwi : within (N : Int) 0 60 = true := within_true.2 ⟨by omega, by omega⟩
  have HWI := Lib.hid (l00In_is true (N : Int) 0 60 w2 hwi)
  clear hwi
  go_wp2_with fail
  refine HWI.out.mono ?_
  rintro e w4 ⟨rfl, rfl⟩
  clear HWI
  go_wp2_with fail
  refine (l07All_any c N hc hN w2).mono ?_
  rintro e w5 ⟨v, b, rfl, hb, ⟨l, hl, f, o, nd, lo⟩, bl⟩
  by_cases hbig : 2000 < (allW c N).length
  · have hT2 := HT.out
    rw [if_pos hbig] at hT2
    subst hT2
    have hbf : b = false := by
      cases b
      · rfl
      · have := hb.1 rfl; omega
    subst hbf
    clear hbig hb hl o nd lo
    go_wp2
    go_ret3
    exact ⟨rfl, HB0.out.trans ((S0.step bl).below.mono HB0.out.size)⟩
  have hT2 := HT.out
  rw [if_neg hbig] at hT2
  have HT2 := Lib.hid hT2
  have hbt : b = true := hb.2 (by omega)
  subst hbt
  rw [hl rfl] at o
  have S := S0.made o nd lo bl
  clear hT2 HT hb hl o nd lo bl S0 x0
  obtain ⟨va, vc, rfl⟩ := S.slcN 0 rfl
  rw [List.length_map] at S ⊢
  obtain ⟨n, hn⟩ : ∃ n, n = (allW c N).length := ⟨_, rfl⟩
  rw [← hn] at S hbig ⊢
  have HN := Lib.hid hn
  clear hn
  go_wp2
  go_loopw [9, 10, 11] (fun vb vm vi wr => ∃ (k : Nat) (b : ByteArray) (m : Int), k ≤ n ∧ vb = .string b ∧ vm = .int .i64 m ∧ vi = .int .i64 k ∧ Star w0 wr [oE strsE [.slice va n vc] ((allW c N).map strW)] ∧ Hid (longE (scanS u N ((allW c N).drop k) (m, b)) = T)) (fun _ _ vi _ => n - (intOf vi).toNat)
  case atStart => exact ⟨0, _, _, Nat.zero_le _, rfl, rfl, rfl, S, Lib.hid (by rw [List.drop_zero]; exact HT2.out)⟩
  case round =>
    clear S HT2
    obtain ⟨k, b, m, hk, rfl, rfl, rfl, S, HG⟩ := hrel
    by_cases hkn : k < n
    case neg =>
      have hg := HG.out
      rw [List.drop_of_length_le (by rw [← HN.out]; omega)] at hg
      clear HG
      by_cases hm : m < 0
      · have hT4 : ((⟨#[]⟩, 0), 6) = T := by unfold scanS longE at hg; rw [if_neg (fun e => Bool.noConfusion e), if_pos hm] at hg; exact hg
        subst hT4
        clear hg
        go_wp2
        go_ret3
        exact ⟨rfl, HB0.out.trans (S.below.mono HB0.out.size)⟩
      · have hT4 : ((b, m), 0) = T := by unfold scanS longE at hg; rw [if_neg (fun e => Bool.noConfusion e), if_neg hm] at hg; exact hg
        subst hT4
        clear hg
        go_wp2
        go_ret3
        exact ⟨rfl, HB0.out.trans (S.below.mono HB0.out.size)⟩
    have hkl : k < (allW c N).length := by rw [← HN.out]; exact hkn
    obtain ⟨gn, gb, go, hgs, hgb, hgc⟩ := strs_cellsA (S.rd 0 rfl) (by rw [List.length_map]; omega)
    have hgv := (hgc k (by rw [List.length_map]; exact hkl)).1
    rw [allW_at hkl] at hgv
    have hok := allW_ok c N (by omega) _ (List.getElem_mem hkl)
    have hg := HG.out
    rw [drop_at hkl] at hg
    obtain ⟨x, hx⟩ : ∃ x, x = (allW c N)[k] := ⟨_, rfl⟩
    rw [← hx] at hgv hok hg
    have hs := strW_size x
    have hsd := strW_data x
    obtain ⟨X, hX⟩ : ∃ X, X = strW x := ⟨_, rfl⟩
    rw [← hX] at hgv hs hsd
    have hXe : (⟨x.toArray⟩ : ByteArray) = X := hX.symm
    rw [scanS.eq_def] at hg
    simp only at hg
    rw [hXe] at hg
    subst hgs
    have i1 : (0 : Int) ≤ (k : Int) := by omega
    have i2 : (k : Int) < (n : Int) := by omega
    by_cases hxN : x.length ≠ N
    · rw [if_pos hxN] at hg
      have HG2 := Lib.hid hg
      have tA : ((X.size : Int) != (N : Int)) = true := by rw [hs]; simpa using fun e : (x.length : Int) = N => hxN (by omega)
      clear hg hxN hXe hX hs hsd hx hok hgc HG hkl gn
      go_wp2
      go_roundw
      case rel => exact ⟨k + 1, b, m, by omega, rfl, rfl, by go_num, S, HG2⟩
      case measure => simp [intOf]; omega
    rw [if_neg hxN] at hg
    have tA : ((X.size : Int) != (N : Int)) = false := by
      have h : x.length = N := by
        by_cases h : x.length = N
        · exact h
        · exact absurd h hxN
      rw [hs, h]; simp
    have HW := Lib.hid (swritten_any u X (writtenT u x) ga wr (HUW.out.of (S.below.mono (Nat.le_refl _))) (by rw [HCU.out, Int.toNat_natCast, hsd]; exact hok.1) (by rw [hs]; have := hok.2; omega) (by rw [hsd]))
    have HX := Lib.hid hX
    obtain ⟨⟨tx, cx⟩, ht⟩ : ∃ y, y = writtenT u x := ⟨_, rfl⟩
    rw [← ht] at HW hg
    simp only at hg
    have HG2 := Lib.hid hg
    clear hg hxN hXe hX hs hsd hx hok hgc HG hkl gn ht
    go_wp2_with fail
    refine HW.out.mono ?_
    rintro e w6 ⟨r1, rfl, b6⟩
    simp only
    replace S := S.step b6
    have hgv := (b6.cell (World.block_lt_of_cell? wr _ hgv)).trans hgv
    clear HW b6
    by_cases h3 : cx = 3
    · have hT4 : ((⟨#[]⟩, 0), 3) = T := by have h := HG2.out; rw [if_pos h3] at h; exact h
      subst hT4
      subst h3
      clear HG2
      go_wp2
      go_ret3
      exact ⟨rfl, HB0.out.trans (S.below.mono HB0.out.size)⟩
    have tB : (cx == 3) = false := by simpa using h3
    have hg := HG2.out
    rw [if_neg h3] at hg
    clear HG2 h3
    by_cases h0 : cx = 0
    · by_cases hm : m < (tx.size : Int)
      · rw [if_pos ⟨h0, hm⟩] at hg
        have HG3 := Lib.hid hg
        subst h0
        clear hg tB
        go_wp2
        go_roundw
        case rel => exact ⟨k + 1, X, (tx.size : Int), by omega, rfl, rfl, by go_num, S, HG3⟩
        case measure => simp [intOf]; omega
      · rw [if_neg (fun h => hm h.2)] at hg
        have HG3 := Lib.hid hg
        subst h0
        clear hg tB
        go_wp2
        go_roundw
        case rel => exact ⟨k + 1, b, m, by omega, rfl, rfl, by go_num, S, HG3⟩
        case measure => simp [intOf]; omega
    · rw [if_neg (fun h => h0 h.1)] at hg
      have HG3 := Lib.hid hg
      have tC : (cx == 0) = false := by simpa using h0
      clear hg h0
      go_wp2
      go_roundw
      case rel => exact ⟨k + 1, b, m, by omega, rfl, rfl, by go_num, S, HG3⟩
      case measure => simp [intOf]; omega

set_option maxHeartbeats 8000000 in
set_option maxRecDepth 100000 in
theorem slong_bad (b : Bool) (u : Writer) (N : Int) (cu : List Value) (B : Nat) (w : World) (hB : B ≤ w.heap.size) (hu : writE.rd w B cu u) (hb : writerOk u = b) (h : b = false ∨ ¬ (0 ≤ N ∧ N ≤ 60)) :
    Calls Tryd.prog 17 #[.agg cu.toArray, .int .i64 N] w (TxnIs ((⟨#[]⟩, 0), if b = false then 1 else 2) w) := by
  obtain ⟨u2, u3, rfl, a1, a2, a3, a4⟩ := rd_WriterF hu
  have S := (Star.nil w).alloc (cs := #[.int .i64 u.turner.letters, .int .i64 u.turner.start, u2, u3]) (ty := 30)
  have HL := Lib.hid (l07Ok_is b u2 u3 u B w.heap.size _ (Nat.le_trans hB S.below.size) (S.blk 0 rfl) (movessE.rd_of (S.below.mono hB) a3) (strssE.rd_of (S.below.mono hB) a4) hb)
  have H := Lib.hid h
  clear a1 a2 a3 a4 hu hb h
  cases b
  case false =>
    rw [if_pos rfl]
    go_enter Tryd.func17, Tryd.ntmps17
    go_wp2_with fail
    refine HL.out.mono ?_
    rintro e w2 ⟨rfl, b1⟩
    replace S := S.step b1
    go_wp2
    go_ret3
    exact ⟨rfl, S.below⟩
  have hn : within N 0 60 = false := by
    cases hw : within N 0 60
    · rfl
    · rcases H.out with h | h
      · cases h
      · exact absurd (within_true.1 hw) h
  rw [if_neg (fun e => Bool.noConfusion e)]
  have HN := Lib.hid hn
  clear hn
  go_enter Tryd.func17, Tryd.ntmps17
  go_wp2_with fail
  refine HL.out.mono ?_
  rintro e w2 ⟨rfl, b1⟩
  replace S := S.step b1
  go_wp2_with fail
  refine (l00In_is false N 0 60 _ HN.out).mono ?_
  rintro e w4 ⟨rfl, rfl⟩
  go_wp2
  go_ret3
  exact ⟨rfl, S.below⟩

theorem specLongest_any (u : Writer) (N : Int) (cu : List Value) (B : Nat) (w : World) (hB : B ≤ w.heap.size) (hu : writE.rd w B cu u) (T : (ByteArray × Int) × Int) (hT : longT u N = T) :
    Calls Tryd.prog 17 #[.agg cu.toArray, .int .i64 N] w (TxnIs T w) := by
  unfold longT at hT
  cases hbu : writerOk u
  case false =>
    rw [if_pos hbu] at hT
    subst hT
    exact slong_bad false u N cu B w hB hu hbu (.inl rfl)
  rw [if_neg (by rw [hbu]; exact fun e => Bool.noConfusion e)] at hT
  by_cases h2 : ¬ (0 ≤ N ∧ N ≤ 60)
  · rw [if_pos h2] at hT
    subst hT
    exact slong_bad true u N cu B w hB hu hbu (.inr h2)
  rw [if_neg h2] at hT
  have h4 : 0 ≤ N ∧ N ≤ 60 := by
    by_cases h : 0 ≤ N ∧ N ≤ 60
    · exact h
    · exact absurd h h2
  have K := (writOk_of hbu).t
  have hl1 := K.l1
  have hl3 := K.l3
  obtain ⟨c, hc⟩ : ∃ c : Nat, u.turner.letters = c := ⟨u.turner.letters.toNat, by omega⟩
  obtain ⟨n, rfl⟩ : ∃ n : Nat, N = n := ⟨N.toNat, by omega⟩
  rw [hc, Int.toNat_natCast, Int.toNat_natCast, ← longS_eq u c n (by omega)] at hT
  exact slong_scan u n c cu B w hB hu hbu hc (by omega) T hT

end Go.Proofs.YtjochoghmpcgdaaDoor
