/-
  The law FnFirstOther: whatever the bytes, it returns true and leaves what was there as it was.
-/
import Derived.Test.YtjochoghmpcgdaaDoorFnFirstAK
import Derived.Test.YtjochoghmpcgdaaDoorPackA
import Derived.Deep.DeepCutAuto
namespace Go.Proofs.YtjochoghmpcgdaaDoor
open Go.RowKit

/-- A box with a writer. -/
structure WbAt (w : World) (g : Nat) (W : Writer) (v2 v3 : Value) : Prop where
  b : Blk w g [.int .i64 W.turner.letters, .int .i64 W.turner.start, v2, v3] 30
  rd : writE.rd w w.heap.size [.int .i64 W.turner.letters, .int .i64 W.turner.start, v2, v3] W

theorem WbAt.of {w w' : World} {g : Nat} {W : Writer} {v2 v3 : Value} (h : WbAt w g W v2 v3) (b : Below w.heap.size w w') : WbAt w' g W v2 v3 := ⟨h.b.of b h.b.lt, writE.rd_mono b.size (writE.rd_of b h.rd)⟩

theorem WbAt.new {w : World} {W : Writer} {v2 v3 : Value} (h : writE.rd w w.heap.size [.int .i64 W.turner.letters, .int .i64 W.turner.start, v2, v3] W) : WbAt (w.alloc (.cells #[.int .i64 W.turner.letters, .int .i64 W.turner.start, v2, v3] 30)) w.heap.size W v2 v3 :=
  ⟨Blk.new w #[.int .i64 W.turner.letters, .int .i64 W.turner.start, v2, v3] 30, writE.rd_mono (by simp) (writE.rd_of ((Below.refl _ _).alloc (Nat.le_refl _) _) h)⟩

theorem scanS_nolim (u v : Writer) (N : Nat) (l : List (List UInt8)) (s : Int × ByteArray) (h : noLim u v l) : (scanS u N l s).1 = false := by
  rcases List.eq_nil_or_concat l with rfl | ⟨l', x, rfl⟩
  · rfl
  · rw [List.concat_eq_append] at h ⊢
    rw [scanS_snoc u v N x l' s h]

set_option maxHeartbeats 40000000 in
set_option maxRecDepth 100000 in
theorem lawFnFirstOther_any (v0 : Value) (code : List Int) (v1 : Value) (more : List Int) (w : World) (h0 : bytesE.rd w w.heap.size [v0] code) (h1 : bytesE.rd w w.heap.size [v1] more) :
    Calls Tryd.prog 3 #[v0, v1] w (Gives (.bool true) w) := by
  obtain ⟨ca, cc, rfl, -, -, -, -⟩ := rd_bytes h0
  obtain ⟨ma, mc, rfl, -, -, -, -⟩ := rd_bytes h1
  by_cases hl : 3000 < code.length ∨ 3000 < more.length
  · have HL := Lib.hid (a2Long_is true _ _ code more _ _ w (decide_eq_true hl) h0 h1)
    clear hl h0 h1
    go_enter Tryd.func3, Tryd.ntmps3
    go_wp2_with fail
    refine HL.out.mono ?_
    rintro e w1 ⟨rfl, rfl⟩
    go_wp2
    go_ret
    exact ⟨rfl, Below.refl _ _⟩
  have HL := Lib.hid (a2Long_is false _ _ code more _ _ w (decide_eq_false hl) h0 h1)
  have HA := Lib.hid (a2At_is 0 2 _ more _ w (by omega) (by omega) (by omega) h1)
  have HC := Lib.hid h0; have HO := Lib.hid h1
  clear hl h0 h1
  go_enter Tryd.func3, Tryd.ntmps3
  go_wp2_with fail
  refine HL.out.mono ?_
  rintro e w ⟨rfl, rfl⟩
  go_wp2_with fail
  refine HA.out.mono ?_
  rintro e w ⟨n0, rfl, hn0, rfl⟩
  obtain ⟨c, hcc⟩ : ∃ c, c = 1 + n0 := ⟨_, rfl⟩
  have wn : IntKind.i64.wrap (1 + (n0 : Int)) = (c : Int) := by rw [hcc, Int.natCast_add]; exact IntWalk.i64_in _ ⟨by omega, by omega⟩
  have hc1 : 1 ≤ c := by omega
  have hc2 : c ≤ 2 := by omega
  have hc3 : c ≤ 3 := by omega
  clear HL HA hcc hn0
  go_wp2_with fail
  refine (A2Writer_any c 3 _ _ hc1 hc3 (by omega) (by omega) ⟨_, HC.out⟩).mono ?_
  rintro e w1 ⟨U, u2, u3, rfl, hok, hlt, hrd, b1⟩
  have KU := Lib.hid hok; have LU := Lib.hid hlt
  obtain ⟨x2, x3, hcs, -, -, q1, q2⟩ := rd_WriterF hrd
  obtain ⟨rfl, rfl⟩ : u2 = x2 ∧ u3 = x3 := by simpa using hcs
  obtain ⟨la, ln, lc, rfl⟩ := rd_slice q1
  obtain ⟨ra, rn, rc, rfl⟩ := rd_slice q2
  have HU := Lib.hid (WbAt.new hrd)
  have HB := Lib.hid (b1.alloc b1.size (.cells #[.int .i64 U.turner.letters, .int .i64 U.turner.start, .slice la ln lc, .slice ra rn rc] 30))
  clear hok hlt hrd hcs q1 q2 b1
  go_upto_region 5 with fail
  generalize hW : w1.alloc _ = w2 at HU HB ⊢
  obtain ⟨g6, hg⟩ : ∃ g, g = w1.heap.size := ⟨_, rfl⟩
  rw [← hg] at HU ⊢
  clear hW hg
  go_wp2_with fail
  refine (A2Writer_any c 3 _ _ hc1 hc3 (by omega) (by omega) ⟨_, bytesE.rd_mono HB.out.size (bytesE.rd_of HB.out HO.out)⟩).mono ?_
  rintro e w3 ⟨V, y2, y3, rfl, hok, hlt, hrd, b1⟩
  have KV := Lib.hid hok; have LV := Lib.hid hlt
  obtain ⟨x2, x3, hcs, -, -, q1, q2⟩ := rd_WriterF hrd
  obtain ⟨rfl, rfl⟩ : y2 = x2 ∧ y3 = x3 := by simpa using hcs
  obtain ⟨ka, kn, kc, rfl⟩ := rd_slice q1
  obtain ⟨ja, jn, jc, rfl⟩ := rd_slice q2
  have HV := Lib.hid (WbAt.new hrd)
  have b2 := b1.alloc b1.size (.cells #[.int .i64 V.turner.letters, .int .i64 V.turner.start, .slice ka kn kc, .slice ja jn jc] 30)
  replace HU := Lib.hid (HU.out.of b2)
  replace HB := Lib.hid (HB.out.trans (b2.mono HB.out.size))
  clear hok hlt hrd hcs q1 q2 b1 b2
  go_upto_region 6 with fail
  generalize hW : w3.alloc _ = w4 at HU HV HB ⊢
  obtain ⟨g7, hg⟩ : ∃ g, g = w3.heap.size := ⟨_, rfl⟩
  rw [← hg] at HV ⊢
  clear hW hg
  have HA := Lib.hid (a2At_is 1 5 _ more _ w4 (by omega) (by omega) (by omega) (bytesE.rd_of HB.out HO.out))
  go_wp2_with fail
  refine HA.out.mono ?_
  rintro e w5 ⟨N, rfl, hN0, hw5⟩
  have hN : N ≤ 4 := by omega
  rw [hw5]
  clear HA hN0 hw5 w5
  obtain ⟨⟨F1, F2⟩, hF⟩ : ∃ F, F = firstT U V (N : Nat) := ⟨_, rfl⟩
  obtain ⟨⟨⟨G1, G2⟩, G3⟩, hG⟩ : ∃ G, G = longT U (N : Nat) := ⟨_, rfl⟩
  have HF := Lib.hid hF; have HG := Lib.hid hG
  clear hF hG
  have d0 := HU.out.b.cell 0 rfl
  have d1 := HU.out.b.cell 1 rfl
  have d2 := HU.out.b.cell 2 rfl
  have d3 := HU.out.b.cell 3 rfl
  have e0 := HV.out.b.cell 0 rfl
  have e1 := HV.out.b.cell 1 rfl
  have e2 := HV.out.b.cell 2 rfl
  have e3 := HV.out.b.cell 3 rfl
  go_wp2_with fail
  refine (firstOther_any2 U V (N : Nat) _ _ _ _ w4 (Nat.le_refl _) (Nat.le_refl _) HU.out.rd HV.out.rd (F1, F2) HF.out.symm).mono ?_
  rintro e w5 ⟨rfl, b⟩
  dsimp only
  clear d0 d1 d2 d3 e0 e1 e2 e3
  replace HU := Lib.hid (HU.out.of b); replace HV := Lib.hid (HV.out.of b); replace HB := Lib.hid (HB.out.trans (b.mono HB.out.size))
  clear b
  have d0 := HU.out.b.cell 0 rfl
  have d1 := HU.out.b.cell 1 rfl
  have d2 := HU.out.b.cell 2 rfl
  have d3 := HU.out.b.cell 3 rfl
  go_wp2_with fail
  refine (longest_any U (N : Nat) _ _ w5 (Nat.le_refl _) HU.out.rd ((G1, G2), G3) HG.out.symm).mono ?_
  rintro e w6 ⟨rfl, b⟩
  dsimp only
  clear d0 d1 d2 d3
  replace HU := Lib.hid (HU.out.of b); replace HV := Lib.hid (HV.out.of b); replace HB := Lib.hid (HB.out.trans (b.mono HB.out.size))
  clear b
  go_wp2_with fail
  refine (words_any c N w6 hc1 hc2 hN).mono ?_
  rintro e w7 ⟨vw, f, rfl, o, nd, lo, b⟩
  have hrd := strsE.rd_ow o
  obtain ⟨sa, sn, sc, rfl⟩ := rd_slice hrd
  dsimp only [id]
  replace HU := Lib.hid (HU.out.of b); replace HV := Lib.hid (HV.out.of b); replace HB := Lib.hid (HB.out.trans (b.mono HB.out.size))
  have hne : 0 < (allW c N).length := by
    have := allW_mono c (Nat.zero_le N)
    rw [allW_zero] at this
    exact this
  obtain ⟨hsn, gs, os, rfl, hgs, hcells⟩ := strs_cellsA hrd (by rw [List.length_map]; exact hne)
  rw [List.length_map] at hsn
  subst hsn
  have HCE := Lib.hid hcells
  clear o nd lo b hrd hcells hne
  obtain ⟨n, hn⟩ : ∃ n, n = (allW c N).length := ⟨_, rfl⟩
  have hsm := allW_small hc2 hN
  rw [← hn] at hsm ⊢
  have HN := Lib.hid hn
  clear hn
  go_wp2
  go_loopw [15, 16, 17, 18, 19, 20, 21, 22, 23] (fun vf vc vb vz vk _ _ _ _ wr => ∃ (k : Nat) (fd : ByteArray) (wh : Int) (bs : ByteArray) (sz : Int), k ≤ n ∧ vf = .string fd ∧ vc = .int .i64 wh ∧ vb = .string bs ∧ vz = .int .i64 sz ∧ vk = .int .i64 k ∧ Below w7.heap.size w7 wr ∧ Hid (noLim U V ((allW c N).take k)) ∧ Hid (scanO U V ((allW c N).take k) = (fd, wh)) ∧ Hid (scanS U N ((allW c N).take k) (-1, ⟨#[]⟩) = (false, sz, bs))) (fun _ _ _ _ vk _ _ _ _ _ => n - (intOf vk).toNat)
  case atStart => exact ⟨0, _, _, _, _, Nat.zero_le _, rfl, rfl, rfl, rfl, rfl, Below.refl _ _, Lib.hid (fun x hx => by cases hx), Lib.hid rfl, Lib.hid rfl⟩
  case round =>
    obtain ⟨k, fd, wh, bs, sz, hk, rfl, rfl, rfl, rfl, rfl, BL, HNL, HSO, HSS⟩ := hrel
    by_cases hkn : k < n
    case neg =>
      have hfull : (allW c N).take k = allW c N := List.take_of_length_le (by rw [← HN.out]; omega)
      have h1 := HSO.out
      have h2 := HSS.out
      have h3 := HNL.out
      rw [hfull] at h1 h2 h3
      have K := (writOk_of KU.out).t
      have hFT : (F1, F2) = (fd, wh) := by
        rw [HF.out, ← h1]
        unfold firstT
        rw [if_neg (by rw [KU.out, KV.out]; simp), if_neg (by rw [LU.out, LV.out]; simp; omega), LU.out, Int.toNat_natCast, Int.toNat_natCast, if_neg (by rw [← HN.out]; omega)]
      have hGT : ((G1, G2), G3) = longE (false, sz, bs) := by
        rw [HG.out, ← h2]
        unfold longT
        rw [if_neg (by rw [KU.out]; simp), if_neg (by simp; omega), LU.out, Int.toNat_natCast, Int.toNat_natCast, if_neg (by rw [← HN.out]; omega), ← longS_eq U c N hc3]
      obtain ⟨rfl, rfl⟩ : F1 = fd ∧ F2 = wh := by simpa using hFT
      have hcode := scanO_codes U V (allW c N) h3
      rw [h1] at hcode
      have hw2 : F2 = 0 ∨ (F1 = ⟨#[]⟩ ∧ F2 = 6) := by
        rcases hcode with h | h
        · exact .inl h
        · simp only [Prod.mk.injEq] at h; exact .inr h
      have HW2 := Lib.hid hw2
      have HGT := Lib.hid hGT
      have BB := HB.out.trans (BL.mono HB.out.size)
      clear hFT hGT h1 h2 h3 hfull hcode hw2 K HF HG HSO HSS HNL
      have tA : (F2 != F2) = false := by simp
      have tB : (F1.toList == F1.toList) = true := by simp
      by_cases hsz : sz < 0
      · have hg := HGT.out
        unfold longE at hg
        rw [if_neg (fun e => Bool.noConfusion e), if_pos hsz] at hg
        obtain rfl : G3 = 6 := (Prod.mk.inj hg).2
        clear hg HGT
        rcases HW2.out with rfl | ⟨rfl, rfl⟩
        · go_wp2
          go_ret
          exact ⟨rfl, BB⟩
        · go_wp2
          go_ret
          exact ⟨rfl, BB⟩
      · have hg := HGT.out
        unfold longE at hg
        rw [if_neg (fun e => Bool.noConfusion e), if_neg hsz] at hg
        obtain ⟨⟨rfl, rfl⟩, rfl⟩ : (G1 = bs ∧ G2 = sz) ∧ G3 = 0 := by simpa using hg
        have tC : (G1.toList == G1.toList) = true := by simp
        have tD : (G2 == G2) = true := by simp
        clear hg HGT
        rcases HW2.out with rfl | ⟨rfl, rfl⟩
        · go_wp2
          go_ret
          exact ⟨rfl, BB⟩
        · go_wp2
          go_ret
          exact ⟨rfl, BB⟩
    have hkl : k < (allW c N).length := by rw [← HN.out]; exact hkn
    have hgv := (HCE.out k (by rw [List.length_map]; exact hkl)).1
    rw [allW_at hkl] at hgv
    have hok := allW_ok c N hc3 _ (List.getElem_mem hkl)
    have hsn := List.take_succ_eq_append_getElem hkl
    obtain ⟨x, hx⟩ : ∃ x, x = (allW c N)[k] := ⟨_, rfl⟩
    rw [← hx] at hgv hok hsn
    have hxs := strW_size x
    have hgv := (BL.cell (World.block_lt_of_cell? w7 _ hgv)).trans hgv
    have HWU := Lib.hid (fun w' (bl : Below w7.heap.size w7 w') => sWritten_yes U _ _ w' x (Nat.le_refl _) (HU.out.of bl).rd KU.out (by rw [LU.out, Int.toNat_natCast]; exact hok.1) (by have := hok.2; omega) (writtenT U x) rfl)
    have HWV := Lib.hid (fun w' (bl : Below w7.heap.size w7 w') => sWritten_yes V _ _ w' x (Nat.le_refl _) (HV.out.of bl).rd KV.out (by rw [LV.out, Int.toNat_natCast]; exact hok.1) (by have := hok.2; omega) (writtenT V x) rfl)
    have hO := fun h => scanO_snoc U V x ((allW c N).take k) h
    have hS := fun h => scanS_snoc U V N x ((allW c N).take k) (-1, ⟨#[]⟩) h
    rw [← hsn, HSO.out] at hO
    rw [← hsn, HSS.out] at hS
    have hNL : ∀ tu cu tv cv, (tu, cu) = writtenT U x → (tv, cv) = writtenT V x → cu ≠ 3 → cv ≠ 3 → noLim U V ((allW c N).take (k + 1)) := by
      intro tu cu tv cv h1 h2 h3 h4
      rw [hsn]
      intro y hy
      rcases List.mem_append.1 hy with hy | hy
      · exact HNL.out y hy
      · rw [List.mem_singleton.1 hy, ← h1, ← h2]; exact ⟨h3, h4⟩
    obtain ⟨⟨tu, cu⟩, ht⟩ : ∃ y, y = writtenT U x := ⟨_, rfl⟩
    obtain ⟨⟨tv, cv⟩, ht2⟩ : ∃ y, y = writtenT V x := ⟨_, rfl⟩
    rw [← ht] at HWU hO hS
    rw [← ht2] at HWV hO
    rw [hsn] at hO hS
    replace hNL := hNL tu cu tv cv ht ht2
    rw [hsn] at hNL
    obtain ⟨X, hX⟩ : ∃ X, X = strW x := ⟨_, rfl⟩
    rw [← hX] at hgv hxs HWU HWV
    have hXe : (⟨x.toArray⟩ : ByteArray) = X := hX.symm
    rw [hXe] at hO hS
    simp only at hO hS HWU HWV
    have hcode := scanO_codes U V _ HNL.out
    rw [HSO.out] at hcode
    have hw2 : wh = 0 ∨ (fd = ⟨#[]⟩ ∧ wh = 6) := by
      rcases hcode with h | h
      · exact .inl h
      · simp only [Prod.mk.injEq] at h; exact .inr h
    have HOO := Lib.hid hO; have HSI := Lib.hid hS; have HNN := Lib.hid hNL; have HSN := Lib.hid hsn; have HXS := Lib.hid hxs; have HW2 := Lib.hid hw2
    clear hO hS hNL hsn hxs hok hx hX hXe ht ht2 hcode hw2 HSO HSS HNL hkl
    have i1 : (0 : Int) ≤ (k : Int) := by omega
    have i2 : (k : Int) < (n : Int) := by omega
    have hUr := (HU.out.of BL)
    have d0 := hUr.b.cell 0 rfl
    have d1 := hUr.b.cell 1 rfl
    have d2 := hUr.b.cell 2 rfl
    have d3 := hUr.b.cell 3 rfl
    have gl1 := hUr.b.lt
    have gl2 := World.block_lt_of_cell? wr _ hgv
    have hov := cell_over wr
    have HBL := Lib.hid BL
    clear hUr BL
    go_wp2
    refine wp_region_over (by kernel_rfl) (by kernel_rfl) ?_
    go_big_quiet_step (fail)
    go_big_quiet_step (fail)
    go_big_quiet_step (fail)
    go_big_quiet_step (fail)
    go_big_quiet_step (fail)
    go_big_quiet_step ((go_at_call 12; exact calls_over (HWU.out _ (HBL.out.trans ((below_over wr _).mono HBL.out.size)))))
    go_big_quiet_step (fail)
    go_big_quiet_step (fail)
    go_big_quiet_step (fail)
    go_big_quiet_step (fail)
    go_big_quiet_step (fail)
    refine wpQuiet_nil ?_
    intro w8 b8
    have hgv := (b8.cell (World.block_lt_of_cell? wr _ hgv)).trans hgv
    have BL := HBL.out.trans (b8.mono HBL.out.size)
    clear d0 d1 d2 d3 gl1 gl2 hov b8 HWU HBL
    have hVr := (HV.out.of BL)
    have d0 := hVr.b.cell 0 rfl
    have d1 := hVr.b.cell 1 rfl
    have d2 := hVr.b.cell 2 rfl
    have d3 := hVr.b.cell 3 rfl
    have gl1 := hVr.b.lt
    have gl2 := World.block_lt_of_cell? w8 _ hgv
    have hov := cell_over w8
    have HBL := Lib.hid BL
    clear hVr BL
    go_wp2
    refine wp_region_over (by kernel_rfl) (by kernel_rfl) ?_
    go_big_quiet_step (fail)
    go_big_quiet_step (fail)
    go_big_quiet_step (fail)
    go_big_quiet_step (fail)
    go_big_quiet_step (fail)
    go_big_quiet_step ((go_at_call 12; exact calls_over (HWV.out _ (HBL.out.trans ((below_over w8 _).mono HBL.out.size)))))
    go_big_quiet_step (fail)
    go_big_quiet_step (fail)
    go_big_quiet_step (fail)
    go_big_quiet_step (fail)
    go_big_quiet_step (fail)
    refine wpQuiet_nil ?_
    intro w9 b9
    have hgv := (b9.cell (World.block_lt_of_cell? w8 _ hgv)).trans hgv
    have BL := HBL.out.trans (b9.mono HBL.out.size)
    clear d0 d1 d2 d3 gl1 gl2 hov b9 HWV HBL
    by_cases q1 : cu = 3
    · subst q1
      clear HOO HSI HNN HSN HXS HW2
      go_wp2
      go_ret
      exact ⟨rfl, HB.out.trans (BL.mono HB.out.size)⟩
    by_cases q2 : cv = 3
    · subst q2
      have tA : (cu == 3) = false := by simpa using q1
      clear q1 HOO HSI HNN HSN HXS HW2
      go_wp2
      go_ret
      exact ⟨rfl, HB.out.trans (BL.mono HB.out.size)⟩
    have tA : (cu == 3) = false := by simpa using q1
    have tB : (cv == 3) = false := by simpa using q2
    have HNL := Lib.hid (HNN.out q1 q2)
    have hO := HOO.out HNL.out
    have hS := HSI.out HNL.out
    replace HOO := Lib.hid hO; replace HSI := Lib.hid hS
    rw [← HSN.out] at HNL HOO HSI
    clear q1 q2 hO hS HNN HSN
    -- the longest: three ways
    obtain ⟨sz2, bs2, hz2⟩ : ∃ (sz2 : Int) (bs2 : ByteArray), (sz2, bs2) = (if x.length ≠ N then (sz, bs) else if cu = 0 ∧ sz < (tu.size : Int) then ((tu.size : Int), X) else (sz, bs)) := ⟨_, _, rfl⟩
    rw [← hz2] at HSI
    have HZ2 := Lib.hid hz2
    clear hz2
    -- the first: two ways
    obtain ⟨fd2, wh2, hf2⟩ : ∃ (fd2 : ByteArray) (wh2 : Int), (fd2, wh2) = (if wh = 0 then (fd, wh) else if (tu, cu) ≠ (tv, cv) then (X, 0) else (⟨#[]⟩, 6)) := ⟨_, _, rfl⟩
    rw [← hf2] at HOO
    have HF2 := Lib.hid hf2
    clear hf2
    rcases HW2.out with rfl | ⟨rfl, rfl⟩
    · obtain ⟨rfl, rfl⟩ : fd2 = fd ∧ wh2 = 0 := by have h := HF2.out; rw [if_pos rfl] at h; simpa using h
      by_cases z1 : x.length ≠ N
      · obtain ⟨rfl, rfl⟩ : sz2 = sz ∧ bs2 = bs := by have h := HZ2.out; rw [if_pos z1] at h; simpa using h
        have tX : ((X.size : Int) == (N : Int)) = false := beq_eq_false_iff_ne.2 (by rw [HXS.out]; omega)
        clear z1
        clear HF2 HZ2 HW2 HXS
        go_wp2
        go_roundw
        case rel => exact ⟨k + 1, _, _, _, _, by omega, rfl, rfl, rfl, rfl, by go_num, BL, HNL, HOO, HSI⟩
        case measure => simp [intOf]; omega
      have hz := HZ2.out
      rw [if_neg z1] at hz
      have tX : ((X.size : Int) == (N : Int)) = true := by rw [HXS.out, Decidable.not_not.1 z1]; simp
      replace HZ2 := Lib.hid hz
      clear z1 hz
      by_cases z2 : cu = 0
      case neg =>
        obtain ⟨rfl, rfl⟩ : sz2 = sz ∧ bs2 = bs := by have h := HZ2.out; rw [if_neg (fun h => z2 h.1)] at h; simpa using h
        have tE : (cu == 0) = false := by simpa using z2
        clear z2
        clear HF2 HZ2 HW2 HXS
        go_wp2
        go_roundw
        case rel => exact ⟨k + 1, _, _, _, _, by omega, rfl, rfl, rfl, rfl, by go_num, BL, HNL, HOO, HSI⟩
        case measure => simp [intOf]; omega
      have tE : (cu == 0) = true := by simpa using z2
      by_cases z3 : sz < (tu.size : Int)
      · obtain ⟨rfl, rfl⟩ : (tu.size : Int) = sz2 ∧ X = bs2 := by have h := HZ2.out; rw [if_pos ⟨z2, z3⟩] at h; simp only [Prod.mk.injEq] at h; exact ⟨h.1.symm, h.2.symm⟩
        clear z2
        clear HF2 HZ2 HW2 HXS
        go_wp2
        go_roundw
        case rel => exact ⟨k + 1, _, _, _, _, by omega, rfl, rfl, rfl, rfl, by go_num, BL, HNL, HOO, HSI⟩
        case measure => simp [intOf]; omega
      · obtain ⟨rfl, rfl⟩ : sz2 = sz ∧ bs2 = bs := by have h := HZ2.out; rw [if_neg (fun h => z3 h.2)] at h; simpa using h
        clear z2
        clear HF2 HZ2 HW2 HXS
        go_wp2
        go_roundw
        case rel => exact ⟨k + 1, _, _, _, _, by omega, rfl, rfl, rfl, rfl, by go_num, BL, HNL, HOO, HSI⟩
        case measure => simp [intOf]; omega
    have hf := HF2.out
    rw [if_neg (show ¬ (6 : Int) = 0 by decide)] at hf
    replace HF2 := Lib.hid hf
    clear hf
    by_cases a1 : cu = cv
    case neg =>
      obtain ⟨rfl, rfl⟩ : X = fd2 ∧ (0 : Int) = wh2 := by have h := HF2.out; rw [if_pos (fun h => a1 (congrArg Prod.snd h))] at h; simp only [Prod.mk.injEq] at h; exact ⟨h.1.symm, h.2.symm⟩
      have tC : (cu != cv) = true := by simpa using a1
      clear a1
      by_cases z1 : x.length ≠ N
      · obtain ⟨rfl, rfl⟩ : sz2 = sz ∧ bs2 = bs := by have h := HZ2.out; rw [if_pos z1] at h; simpa using h
        have tX : ((X.size : Int) == (N : Int)) = false := beq_eq_false_iff_ne.2 (by rw [HXS.out]; omega)
        clear z1
        clear HF2 HZ2 HW2 HXS
        go_wp2
        go_roundw
        case rel => exact ⟨k + 1, _, _, _, _, by omega, rfl, rfl, rfl, rfl, by go_num, BL, HNL, HOO, HSI⟩
        case measure => simp [intOf]; omega
      have hz := HZ2.out
      rw [if_neg z1] at hz
      have tX : ((X.size : Int) == (N : Int)) = true := by rw [HXS.out, Decidable.not_not.1 z1]; simp
      replace HZ2 := Lib.hid hz
      clear z1 hz
      by_cases z2 : cu = 0
      case neg =>
        obtain ⟨rfl, rfl⟩ : sz2 = sz ∧ bs2 = bs := by have h := HZ2.out; rw [if_neg (fun h => z2 h.1)] at h; simpa using h
        have tE : (cu == 0) = false := by simpa using z2
        clear z2
        clear HF2 HZ2 HW2 HXS
        go_wp2
        go_roundw
        case rel => exact ⟨k + 1, _, _, _, _, by omega, rfl, rfl, rfl, rfl, by go_num, BL, HNL, HOO, HSI⟩
        case measure => simp [intOf]; omega
      have tE : (cu == 0) = true := by simpa using z2
      by_cases z3 : sz < (tu.size : Int)
      · obtain ⟨rfl, rfl⟩ : (tu.size : Int) = sz2 ∧ X = bs2 := by have h := HZ2.out; rw [if_pos ⟨z2, z3⟩] at h; simp only [Prod.mk.injEq] at h; exact ⟨h.1.symm, h.2.symm⟩
        clear z2
        clear HF2 HZ2 HW2 HXS
        go_wp2
        go_roundw
        case rel => exact ⟨k + 1, _, _, _, _, by omega, rfl, rfl, rfl, rfl, by go_num, BL, HNL, HOO, HSI⟩
        case measure => simp [intOf]; omega
      · obtain ⟨rfl, rfl⟩ : sz2 = sz ∧ bs2 = bs := by have h := HZ2.out; rw [if_neg (fun h => z3 h.2)] at h; simpa using h
        clear z2
        clear HF2 HZ2 HW2 HXS
        go_wp2
        go_roundw
        case rel => exact ⟨k + 1, _, _, _, _, by omega, rfl, rfl, rfl, rfl, by go_num, BL, HNL, HOO, HSI⟩
        case measure => simp [intOf]; omega
    have tC : (cu != cv) = false := by simp [a1]
    by_cases a2 : tu = tv
    · obtain ⟨rfl, rfl⟩ : fd2 = ⟨#[]⟩ ∧ wh2 = 6 := by have h := HF2.out; rw [if_neg (fun h => h (by rw [a1, a2]))] at h; simpa using h
      have tD : (tu.toList == tv.toList) = true := by rw [a2]; simp
      clear a1 a2
      by_cases z1 : x.length ≠ N
      · obtain ⟨rfl, rfl⟩ : sz2 = sz ∧ bs2 = bs := by have h := HZ2.out; rw [if_pos z1] at h; simpa using h
        have tX : ((X.size : Int) == (N : Int)) = false := beq_eq_false_iff_ne.2 (by rw [HXS.out]; omega)
        clear z1
        clear HF2 HZ2 HW2 HXS
        go_wp2
        go_roundw
        case rel => exact ⟨k + 1, _, _, _, _, by omega, rfl, rfl, rfl, rfl, by go_num, BL, HNL, HOO, HSI⟩
        case measure => simp [intOf]; omega
      have hz := HZ2.out
      rw [if_neg z1] at hz
      have tX : ((X.size : Int) == (N : Int)) = true := by rw [HXS.out, Decidable.not_not.1 z1]; simp
      replace HZ2 := Lib.hid hz
      clear z1 hz
      by_cases z2 : cu = 0
      case neg =>
        obtain ⟨rfl, rfl⟩ : sz2 = sz ∧ bs2 = bs := by have h := HZ2.out; rw [if_neg (fun h => z2 h.1)] at h; simpa using h
        have tE : (cu == 0) = false := by simpa using z2
        clear z2
        clear HF2 HZ2 HW2 HXS
        go_wp2
        go_roundw
        case rel => exact ⟨k + 1, _, _, _, _, by omega, rfl, rfl, rfl, rfl, by go_num, BL, HNL, HOO, HSI⟩
        case measure => simp [intOf]; omega
      have tE : (cu == 0) = true := by simpa using z2
      by_cases z3 : sz < (tu.size : Int)
      · obtain ⟨rfl, rfl⟩ : (tu.size : Int) = sz2 ∧ X = bs2 := by have h := HZ2.out; rw [if_pos ⟨z2, z3⟩] at h; simp only [Prod.mk.injEq] at h; exact ⟨h.1.symm, h.2.symm⟩
        clear z2
        clear HF2 HZ2 HW2 HXS
        go_wp2
        go_roundw
        case rel => exact ⟨k + 1, _, _, _, _, by omega, rfl, rfl, rfl, rfl, by go_num, BL, HNL, HOO, HSI⟩
        case measure => simp [intOf]; omega
      · obtain ⟨rfl, rfl⟩ : sz2 = sz ∧ bs2 = bs := by have h := HZ2.out; rw [if_neg (fun h => z3 h.2)] at h; simpa using h
        clear z2
        clear HF2 HZ2 HW2 HXS
        go_wp2
        go_roundw
        case rel => exact ⟨k + 1, _, _, _, _, by omega, rfl, rfl, rfl, rfl, by go_num, BL, HNL, HOO, HSI⟩
        case measure => simp [intOf]; omega
    · obtain ⟨rfl, rfl⟩ : X = fd2 ∧ (0 : Int) = wh2 := by have h := HF2.out; rw [if_pos (fun h => a2 (congrArg Prod.fst h))] at h; simp only [Prod.mk.injEq] at h; exact ⟨h.1.symm, h.2.symm⟩
      have tD : (tu.toList == tv.toList) = false := bytes_neO a2
      clear a1 a2
      by_cases z1 : x.length ≠ N
      · obtain ⟨rfl, rfl⟩ : sz2 = sz ∧ bs2 = bs := by have h := HZ2.out; rw [if_pos z1] at h; simpa using h
        have tX : ((X.size : Int) == (N : Int)) = false := beq_eq_false_iff_ne.2 (by rw [HXS.out]; omega)
        clear z1
        clear HF2 HZ2 HW2 HXS
        go_wp2
        go_roundw
        case rel => exact ⟨k + 1, _, _, _, _, by omega, rfl, rfl, rfl, rfl, by go_num, BL, HNL, HOO, HSI⟩
        case measure => simp [intOf]; omega
      have hz := HZ2.out
      rw [if_neg z1] at hz
      have tX : ((X.size : Int) == (N : Int)) = true := by rw [HXS.out, Decidable.not_not.1 z1]; simp
      replace HZ2 := Lib.hid hz
      clear z1 hz
      by_cases z2 : cu = 0
      case neg =>
        obtain ⟨rfl, rfl⟩ : sz2 = sz ∧ bs2 = bs := by have h := HZ2.out; rw [if_neg (fun h => z2 h.1)] at h; simpa using h
        have tE : (cu == 0) = false := by simpa using z2
        clear z2
        clear HF2 HZ2 HW2 HXS
        go_wp2
        go_roundw
        case rel => exact ⟨k + 1, _, _, _, _, by omega, rfl, rfl, rfl, rfl, by go_num, BL, HNL, HOO, HSI⟩
        case measure => simp [intOf]; omega
      have tE : (cu == 0) = true := by simpa using z2
      by_cases z3 : sz < (tu.size : Int)
      · obtain ⟨rfl, rfl⟩ : (tu.size : Int) = sz2 ∧ X = bs2 := by have h := HZ2.out; rw [if_pos ⟨z2, z3⟩] at h; simp only [Prod.mk.injEq] at h; exact ⟨h.1.symm, h.2.symm⟩
        clear z2
        clear HF2 HZ2 HW2 HXS
        go_wp2
        go_roundw
        case rel => exact ⟨k + 1, _, _, _, _, by omega, rfl, rfl, rfl, rfl, by go_num, BL, HNL, HOO, HSI⟩
        case measure => simp [intOf]; omega
      · obtain ⟨rfl, rfl⟩ : sz2 = sz ∧ bs2 = bs := by have h := HZ2.out; rw [if_neg (fun h => z3 h.2)] at h; simpa using h
        clear z2
        clear HF2 HZ2 HW2 HXS
        go_wp2
        go_roundw
        case rel => exact ⟨k + 1, _, _, _, _, by omega, rfl, rfl, rfl, rfl, by go_num, BL, HNL, HOO, HSI⟩
        case measure => simp [intOf]; omega

end Go.Proofs.YtjochoghmpcgdaaDoor
