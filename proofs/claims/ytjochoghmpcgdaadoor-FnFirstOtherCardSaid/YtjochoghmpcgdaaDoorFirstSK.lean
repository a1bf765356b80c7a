/-
  FirstOther of the specification.
-/
import Derived.Test.YtjochoghmpcgdaaDoorLongSK
import Derived.Test.YtjochoghmpcgdaaDoorFirstAK
namespace Go.Proofs.YtjochoghmpcgdaaDoor
open Go.RowKit

theorem firstOther_any2 (u v : Writer) (N : Int) (cu cv : List Value) (B C : Nat) (w : World) (hB : B ≤ w.heap.size) (hC : C ≤ w.heap.size) (hu : writE.rd w B cu u) (hv : writE.rd w C cv v) (T : ByteArray × Int) (hT : firstT u v N = T) :
    Calls Tryd.prog 9 #[.agg cu.toArray, .agg cv.toArray, .int .i64 N] w (TxtIs T w) :=
  firstOther_any u v N cu cv w.heap.size w (Nat.le_refl _) (writE.rd_mono hB hu) (writE.rd_mono hC hv) T hT

set_option maxHeartbeats 8000000 in
set_option maxRecDepth 100000 in
theorem sfirst_bad (u v : Writer) (N : Int) (cu cv : List Value) (B : Nat) (w : World) (hB : B ≤ w.heap.size) (hu : writE.rd w B cu u) (hv : writE.rd w B cv v) (h : writerOk u = false ∨ writerOk v = false) :
    Calls Tryd.prog 14 #[.agg cu.toArray, .agg cv.toArray, .int .i64 N] w (TxtIs (⟨#[]⟩, 1) w) := by
  obtain ⟨u2, u3, rfl, a1, a2, a3, a4⟩ := rd_WriterF hu
  obtain ⟨v2, v3, rfl, b1, b2, b3, b4⟩ := rd_WriterF hv
  have S := ((Star.nil w).alloc (cs := #[.int .i64 u.turner.letters, .int .i64 u.turner.start, u2, u3]) (ty := 30)).alloc (cs := #[.int .i64 v.turner.letters, .int .i64 v.turner.start, v2, v3]) (ty := 30)
  rw [World.size_alloc] at S
  have HU := Lib.hid (fun b hb => l07Ok_is b u2 u3 u B w.heap.size _ (Nat.le_trans hB S.below.size) (S.blk 1 rfl) (movessE.rd_of (S.below.mono hB) a3) (strssE.rd_of (S.below.mono hB) a4) hb)
  have HV := Lib.hid (fun b hb w2 (bl : Below w.heap.size w w2) hA => l07Ok_is b v2 v3 v B (w.heap.size + 1) w2 (Nat.le_trans hB bl.size) hA (movessE.rd_of (bl.mono hB) b3) (strssE.rd_of (bl.mono hB) b4) hb)
  clear a1 a2 a3 a4 b1 b2 b3 b4 hu hv
  go_enter Tryd.func14, Tryd.ntmps14
  go_wp2_with fail
  generalize hW : (w.alloc _).alloc _ = w0 at S HU ⊢
  cases hbu : writerOk u
  case false =>
    refine (HU.out false hbu).mono ?_
    rintro e w2 ⟨rfl, b1⟩
    replace S := S.step b1
    go_wp2
    go_ret2
    exact ⟨rfl, S.below⟩
  have hbv : writerOk v = false := by
    rcases h with h | h
    · rw [hbu] at h; cases h
    · exact h
  refine (HU.out true hbu).mono ?_
  rintro e w2 ⟨rfl, b1⟩
  replace S := S.step b1
  clear hbu h b1
  go_wp2_with fail
  refine (HV.out false hbv w2 S.below (S.blk 0 rfl)).mono ?_
  rintro e w3 ⟨rfl, b1⟩
  replace S := S.step b1
  go_wp2
  go_ret2
  exact ⟨rfl, S.below⟩

set_option maxHeartbeats 8000000 in
set_option maxRecDepth 100000 in
theorem sfirst_two (u v : Writer) (N : Int) (cu cv : List Value) (B : Nat) (w : World) (hB : B ≤ w.heap.size) (hu : writE.rd w B cu u) (hv : writE.rd w B cv v) (hbu : writerOk u = true) (hbv : writerOk v = true) (h : u.turner.letters ≠ v.turner.letters ∨ ¬ (0 ≤ N ∧ N ≤ 60)) :
    Calls Tryd.prog 14 #[.agg cu.toArray, .agg cv.toArray, .int .i64 N] w (TxtIs (⟨#[]⟩, 2) w) := by
  obtain ⟨u2, u3, rfl, a1, a2, a3, a4⟩ := rd_WriterF hu
  obtain ⟨v2, v3, rfl, b1, b2, b3, b4⟩ := rd_WriterF hv
  have S := ((Star.nil w).alloc (cs := #[.int .i64 u.turner.letters, .int .i64 u.turner.start, u2, u3]) (ty := 30)).alloc (cs := #[.int .i64 v.turner.letters, .int .i64 v.turner.start, v2, v3]) (ty := 30)
  rw [World.size_alloc] at S
  have HU := Lib.hid (l07Ok_is true u2 u3 u B w.heap.size _ (Nat.le_trans hB S.below.size) (S.blk 1 rfl) (movessE.rd_of (S.below.mono hB) a3) (strssE.rd_of (S.below.mono hB) a4) hbu)
  have HV := Lib.hid (fun w2 (bl : Below w.heap.size w w2) hA => l07Ok_is true v2 v3 v B (w.heap.size + 1) w2 (Nat.le_trans hB bl.size) hA (movessE.rd_of (bl.mono hB) b3) (strssE.rd_of (bl.mono hB) b4) hbv)
  obtain ⟨lu, hlu⟩ : ∃ l, l = u.turner.letters := ⟨_, rfl⟩
  obtain ⟨lv, hlv⟩ : ∃ l, l = v.turner.letters := ⟨_, rfl⟩
  rw [← hlu, ← hlv] at S h
  rw [← hlu, ← hlv] at HU
  rw [← hlv] at HV
  rw [← hlu, ← hlv]
  have H := Lib.hid h
  clear a1 a2 a3 a4 b1 b2 b3 b4 hu hv hbu hbv hlu hlv h
  go_enter Tryd.func14, Tryd.ntmps14
  go_wp2_with fail
  generalize hW : (w.alloc _).alloc _ = w0 at S HU ⊢
  clear hW
  refine HU.out.mono ?_
  rintro e w2 ⟨rfl, b1⟩
  replace S := S.step b1
  clear b1 HU
  go_wp2_with fail
  refine (HV.out w2 S.below (S.blk 0 rfl)).mono ?_
  rintro e w3 ⟨rfl, b1⟩
  replace S := S.step b1
  clear b1 HV
  have z0 := (S.blk 0 rfl).cell 0 rfl
  have y0 := (S.blk 1 rfl).cell 0 rfl
  by_cases hl : lu = lv
  · have hn : within N 0 60 = false := by
      cases hw : within N 0 60
      · rfl
      · rcases H.out with h | h
        · exact absurd hl h
        · exact absurd (within_true.1 hw) h
    have HN := Lib.hid hn
    subst hl
    have tA : (lu != lu) = false := by simp
    clear hn H
    go_wp2_with fail
    refine (l00In_is false N 0 60 _ HN.out).mono ?_
    rintro e w4 ⟨rfl, rfl⟩
    go_wp2
    go_ret2
    exact ⟨rfl, S.below⟩
  · have tA : (lu != lv) = true := by simpa using hl
    clear hl H
    go_wp2
    go_ret2
    exact ⟨rfl, S.below⟩

set_option maxHeartbeats 8000000 in
set_option maxRecDepth 100000 in
theorem sfirst_scan (u v : Writer) (N c : Nat) (cu cv : List Value) (B : Nat) (w : World) (hB : B ≤ w.heap.size) (hu : writE.rd w B cu u) (hv : writE.rd w B cv v) (hbu : writerOk u = true) (hbv : writerOk v = true) (hcu : u.turner.letters = c) (hcv : v.turner.letters = c) (hN : N ≤ 60) (T : ByteArray × Int)
    (hT : (if 2000 < (allW c N).length then (⟨#[]⟩, 3) else scanO u v (allW c N)) = T) :
    Calls Tryd.prog 14 #[.agg cu.toArray, .agg cv.toArray, .int .i64 (N : Nat)] w (TxtIs T w) := by
  obtain ⟨u2, u3, rfl, a1, a2, a3, a4⟩ := rd_WriterF hu
  obtain ⟨v2, v3, rfl, b1, b2, b3, b4⟩ := rd_WriterF hv
  have hc : 1 ≤ c ∧ c ≤ 3 := by
    have K := (writOk_of hbu).t
    have h1 := K.l1
    have h3 := K.l3
    omega
  have S := ((Star.nil w).alloc (cs := #[.int .i64 u.turner.letters, .int .i64 u.turner.start, u2, u3]) (ty := 30)).alloc (cs := #[.int .i64 v.turner.letters, .int .i64 v.turner.start, v2, v3]) (ty := 30)
  rw [World.size_alloc] at S
  have HU := Lib.hid (l07Ok_is true u2 u3 u B w.heap.size _ (Nat.le_trans hB S.below.size) (S.blk 1 rfl) (movessE.rd_of (S.below.mono hB) a3) (strssE.rd_of (S.below.mono hB) a4) hbu)
  have HV := Lib.hid (fun w2 (bl : Below w.heap.size w w2) hA => l07Ok_is true v2 v3 v B (w.heap.size + 1) w2 (Nat.le_trans hB bl.size) hA (movessE.rd_of (bl.mono hB) b3) (strssE.rd_of (bl.mono hB) b4) hbv)
  have HUW := Lib.hid (rdWP_box (S.blk 1 rfl) (movessE.rd_of (S.below.mono hB) a3) (strssE.rd_of (S.below.mono hB) a4) hbu)
  have HVW := Lib.hid (rdWP_box (S.blk 0 rfl) (movessE.rd_of (S.below.mono hB) b3) (strssE.rd_of (S.below.mono hB) b4) hbv)
  have HCU := Lib.hid hcu; have HCV := Lib.hid hcv; have HT := Lib.hid hT
  rw [hcu] at S HU HUW HVW ⊢
  rw [hcv] at S HU HV HUW HVW ⊢
  clear a1 a2 a3 a4 b1 b2 b3 b4 hu hv hbu hbv hcu hcv hT
  go_enter Tryd.func14, Tryd.ntmps14
  go_wp2_with fail
  generalize hW : (w.alloc _).alloc _ = w0 at S HU HUW HVW ⊢
  clear hW
  obtain ⟨ga, hga⟩ : ∃ g, g = w.heap.size := ⟨_, rfl⟩
  have HB0 := Lib.hid S.below
  refine HU.out.mono ?_
  rintro e w2 ⟨rfl, b1⟩
  have S0 := (Star.nil w0).step b1
  replace S := S.step b1
  clear b1 HU
  go_wp2_with fail
  refine (HV.out w2 S.below (S.blk 0 rfl)).mono ?_
  rintro e w3 ⟨rfl, b1⟩
  replace S0 := S0.step b1
  replace S := S.step b1
  clear b1 HV
  rw [← hga] at S HUW HVW ⊢
  obtain ⟨gb, hgb⟩ : ∃ g, g = ga + 1 := ⟨_, rfl⟩
  rw [← hgb] at S HVW ⊢
  clear hga hgb
  have z0 := (S.blk 0 rfl).cell 0 rfl
  have y0 := (S.blk 1 rfl).cell 0 rfl
  clear S
  have hwi : within (N : Int) 0 60 = true := within_true.2 ⟨by omega, by omega⟩
  have HWI := Lib.hid (l00In_is true (N : Int) 0 60 w3 hwi)
  clear hwi
  go_wp2_with fail
  refine HWI.out.mono ?_
  rintro e w4 ⟨rfl, rfl⟩
  clear HWI
  go_wp2_with fail
  refine (l07All_any c N hc hN w3).mono ?_
  rintro e w5 ⟨r, b, rfl, hb, ⟨l, hl, f, o, nd, lo⟩, bl⟩
  by_cases hbig : 2000 < (allW c N).length
  · have hT2 := HT.out
    rw [if_pos hbig] at hT2
    subst hT2
    have hbf : b = false := by
      cases b
      · rfl
      · have := hb.1 rfl; omega
    subst hbf
    clear hbig hb hl o nd lo
    go_wp2
    go_ret2
    exact ⟨rfl, HB0.out.trans ((S0.step bl).below.mono HB0.out.size)⟩
  have hT2 := HT.out
  rw [if_neg hbig] at hT2
  have HT2 := Lib.hid hT2
  have hbt : b = true := hb.2 (by omega)
  subst hbt
  rw [hl rfl] at o
  have S := S0.made o nd lo bl
  clear hT2 HT hb hl o nd lo bl S0 z0 y0
  obtain ⟨va, vc, rfl⟩ := S.slcN 0 rfl
  rw [List.length_map] at S ⊢
  obtain ⟨n, hn⟩ : ∃ n, n = (allW c N).length := ⟨_, rfl⟩
  rw [← hn] at S hbig ⊢
  have HN := Lib.hid hn
  clear hn
  go_wp2
  go_loopw [10] (fun vi wr => ∃ (k : Nat), k ≤ n ∧ vi = .int .i64 k ∧ Star w0 wr [oE strsE [.slice va n vc] ((allW c N).map strW)] ∧ Hid (scanO u v ((allW c N).drop k) = T)) (fun vi _ => n - (intOf vi).toNat)
  case atStart => exact ⟨0, Nat.zero_le _, rfl, S, Lib.hid (by rw [List.drop_zero]; exact HT2.out)⟩
  case round =>
    clear S HT2
    obtain ⟨k, hk, rfl, S, HG⟩ := hrel
    by_cases hkn : k < n
    case neg =>
      have hg := HG.out
      rw [List.drop_of_length_le (by rw [← HN.out]; omega)] at hg
      clear HG
      have hT4 : (⟨#[]⟩, 6) = T := hg
      subst hT4
      clear hg
      go_wp2
      go_ret2
      exact ⟨rfl, HB0.out.trans (S.below.mono HB0.out.size)⟩
    have hkl : k < (allW c N).length := by rw [← HN.out]; exact hkn
    obtain ⟨gn, gq, go, hgs, hgb, hgc⟩ := strs_cellsA (S.rd 0 rfl) (by rw [List.length_map]; omega)
    have hgv := (hgc k (by rw [List.length_map]; exact hkl)).1
    rw [allW_at hkl] at hgv
    have hok := allW_ok c N (by omega) _ (List.getElem_mem hkl)
    have hg := HG.out
    rw [drop_at hkl] at hg
    obtain ⟨x, hx⟩ : ∃ x, x = (allW c N)[k] := ⟨_, rfl⟩
    rw [← hx] at hgv hok hg
    have hs := strW_size x
    have hsd := strW_data x
    obtain ⟨X, hX⟩ : ∃ X, X = strW x := ⟨_, rfl⟩
    rw [← hX] at hgv hs hsd
    have hXe : (⟨x.toArray⟩ : ByteArray) = X := hX.symm
    rw [scanO.eq_def] at hg
    simp only at hg
    rw [hXe] at hg
    subst hgs
    have i1 : (0 : Int) ≤ (k : Int) := by omega
    have i2 : (k : Int) < (n : Int) := by omega
    have HU := Lib.hid (swritten_any u X (writtenT u x) ga wr (HUW.out.of (S.below.mono (Nat.le_refl _))) (by rw [HCU.out, Int.toNat_natCast, hsd]; exact hok.1) (by rw [hs]; have := hok.2; omega) (by rw [hsd]))
    have HV := Lib.hid (fun w' (bl : Below w0.heap.size w0 w') => swritten_any v X (writtenT v x) gb w' (HVW.out.of bl) (by rw [HCV.out, Int.toNat_natCast, hsd]; exact hok.1) (by rw [hs]; have := hok.2; omega) (by rw [hsd]))
    obtain ⟨⟨tu, cu⟩, ht⟩ : ∃ y, y = writtenT u x := ⟨_, rfl⟩
    obtain ⟨⟨tv, cv⟩, ht2⟩ : ∃ y, y = writtenT v x := ⟨_, rfl⟩
    rw [← ht] at HU
    rw [← ht2] at HV
    rw [← ht, ← ht2] at hg
    simp only at hg
    have HG2 := Lib.hid hg
    clear hg hXe hX hs hsd hx hok hgc HG hkl gn ht ht2
    go_wp2_with fail
    refine HU.out.mono ?_
    rintro e w6 ⟨r1, rfl, b6⟩
    simp only
    replace S := S.step b6
    replace hgv := (b6.cell (World.block_lt_of_cell? wr _ hgv)).trans hgv
    clear HU b6
    go_wp2_with fail
    refine (HV.out w6 S.below).mono ?_
    rintro e w7 ⟨r2, rfl, b7⟩
    simp only
    replace S := S.step b7
    replace hgv := (b7.cell (World.block_lt_of_cell? w6 _ hgv)).trans hgv
    clear HV b7
    by_cases h1 : cu = 3
    · have hT4 : (⟨#[]⟩, 3) = T := by have h := HG2.out; rw [if_pos (.inl h1)] at h; exact h
      subst hT4
      subst h1
      clear HG2
      go_wp2
      go_ret2
      exact ⟨rfl, HB0.out.trans (S.below.mono HB0.out.size)⟩
    have tA : (cu == 3) = false := by simpa using h1
    by_cases h2 : cv = 3
    · have hT4 : (⟨#[]⟩, 3) = T := by have h := HG2.out; rw [if_pos (.inr h2)] at h; exact h
      subst hT4
      subst h2
      clear HG2 h1
      go_wp2
      go_ret2
      exact ⟨rfl, HB0.out.trans (S.below.mono HB0.out.size)⟩
    have tB : (cv == 3) = false := by simpa using h2
    have hg := HG2.out
    rw [if_neg (fun h => h.elim h1 h2)] at hg
    have HG3 := Lib.hid hg
    clear h1 h2 hg HG2
    by_cases h3 : cu = cv
    · subst h3
      by_cases h4 : tu = tv
      · subst h4
        have hg := HG3.out
        rw [if_neg (fun h => h rfl)] at hg
        have HG4 := Lib.hid hg
        have tC : (tu.toList == tu.toList) = true := by simp
        have tD : (cu != cu) = false := by simp
        clear hg HG3
        go_wp2
        go_roundw
        case rel => exact ⟨k + 1, by omega, by go_num, S, HG4⟩
        case measure => simp [intOf]; omega
      · have tC : (tu.toList == tv.toList) = false := bytes_neO h4
        have tD : (cu != cu) = false := by simp
        have hT4 : (X, 0) = T := by have h := HG3.out; rw [if_pos (fun h => h4 (congrArg Prod.fst h))] at h; exact h
        subst hT4
        clear HG3
        go_wp2
        go_ret2
        exact ⟨rfl, HB0.out.trans (S.below.mono HB0.out.size)⟩
    · have tD : (cu != cv) = true := by simpa using h3
      have hT4 : (X, 0) = T := by have h := HG3.out; rw [if_pos (fun h => h3 (congrArg Prod.snd h))] at h; exact h
      subst hT4
      clear HG3 h3
      go_wp2
      go_ret2
      exact ⟨rfl, HB0.out.trans (S.below.mono HB0.out.size)⟩

theorem specFirst_one (u v : Writer) (N : Int) (cu cv : List Value) (B : Nat) (w : World) (hB : B ≤ w.heap.size) (hu : writE.rd w B cu u) (hv : writE.rd w B cv v) (T : ByteArray × Int) (hT : firstT u v N = T) :
    Calls Tryd.prog 14 #[.agg cu.toArray, .agg cv.toArray, .int .i64 N] w (TxtIs T w) := by
  unfold firstT at hT
  by_cases h1 : writerOk u = false ∨ writerOk v = false
  · rw [if_pos h1] at hT
    subst hT
    exact sfirst_bad u v N cu cv B w hB hu hv h1
  rw [if_neg h1] at hT
  have hbu : writerOk u = true := by cases h : writerOk u with | true => rfl | false => exact absurd (.inl h) h1
  have hbv : writerOk v = true := by cases h : writerOk v with | true => rfl | false => exact absurd (.inr h) h1
  by_cases h2 : u.turner.letters ≠ v.turner.letters ∨ ¬ (0 ≤ N ∧ N ≤ 60)
  · rw [if_pos h2] at hT
    subst hT
    exact sfirst_two u v N cu cv B w hB hu hv hbu hbv h2
  rw [if_neg h2] at hT
  have h3 : u.turner.letters = v.turner.letters := by
    by_cases h : u.turner.letters = v.turner.letters
    · exact h
    · exact absurd (.inl h) h2
  have h4 : 0 ≤ N ∧ N ≤ 60 := by
    by_cases h : 0 ≤ N ∧ N ≤ 60
    · exact h
    · exact absurd (.inr h) h2
  have K := (writOk_of hbu).t
  have hl1 := K.l1
  obtain ⟨c, hc⟩ : ∃ c : Nat, u.turner.letters = c := ⟨u.turner.letters.toNat, by omega⟩
  obtain ⟨n, rfl⟩ : ∃ n : Nat, N = n := ⟨N.toNat, by omega⟩
  rw [hc, Int.toNat_natCast, Int.toNat_natCast] at hT
  exact sfirst_scan u v n c cu cv B w hB hu hv hbu hbv hc (by rw [← h3, hc]) (by omega) T hT

theorem specFirst_any (u v : Writer) (N : Int) (cu cv : List Value) (B C : Nat) (w : World) (hB : B ≤ w.heap.size) (hC : C ≤ w.heap.size) (hu : writE.rd w B cu u) (hv : writE.rd w C cv v) (T : ByteArray × Int) (hT : firstT u v N = T) :
    Calls Tryd.prog 14 #[.agg cu.toArray, .agg cv.toArray, .int .i64 N] w (TxtIs T w) :=
  specFirst_one u v N cu cv w.heap.size w (Nat.le_refl _) (writE.rd_mono hB hu) (writE.rd_mono hC hv) T hT

end Go.Proofs.YtjochoghmpcgdaaDoor
