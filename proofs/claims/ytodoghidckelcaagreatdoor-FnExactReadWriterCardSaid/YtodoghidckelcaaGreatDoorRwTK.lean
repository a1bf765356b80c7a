/-
  A turner read by the program.
-/
import Derived.Test.YtodoghidckelcaaGreatDoorRwMK
import Derived.Test.YtodoghidckelcaaGreatDoorRwLawK
import Derived.Test.YtodoghidckelcaaGreatDoorTextWK
namespace Go.Proofs.YtodoghidckelcaaGreatDoor
open Go.RowKit Go.PlainAid

theorem strs_cellsR {w : World} {B : Nat} {l : List ByteArray} {v : Value} (h : strsE.rd w B [v] l) (h0 : 0 < l.length) : ∃ jb jo jn jc, v = .slice (some ⟨jb, jo, none⟩) jn jc ∧ jn = l.length ∧ jb < B ∧ ∀ k, k < l.length → w.cell? ⟨jb, jo + k, none⟩ = some (.string (l.getD k ByteArray.empty)) := by
  obtain ⟨a, cap, rfl, h1, h2, h3, h4⟩ := rd_strs h
  obtain ⟨b, o, rfl, hb, -, -⟩ := h4 0 h0
  refine ⟨b, o, _, _, rfl, rfl, hb, fun k hk => ?_⟩
  obtain ⟨b2, o2, e2, -, hc, hs⟩ := h4 k hk
  cases e2
  rw [List.getD_eq_getElem?_getD]
  exact hc

theorem getD_map (l : List (List UInt8)) (k : Nat) (h : k < l.length) : (l.map mkB).getD k ByteArray.empty = mkB (l.getD k []) := by
  rw [List.getD_eq_getElem?_getD, List.getD_eq_getElem?_getD, List.getElem?_map, List.getElem?_eq_getElem h]
  rfl

theorem ow_noTurn (w : World) : turnE.ow w [.int .i64 0, .int .i64 0, .slice none 0 0] noTurn [] :=
  ow_Turner (r := noTurn) (by decide) (by decide) (ow_nil _ _ _)

theorem turn_owR {w0 w : World} {ps : List Ob} {v : Value} {x : Turner} (S : Star w0 w (oE movessE [v] x.moves :: ps)) (k0 : -9223372036854775808 ≤ x.letters ∧ x.letters ≤ 9223372036854775807) (k1 : -9223372036854775808 ≤ x.start ∧ x.start ≤ 9223372036854775807) :
    Star w0 w (oE turnE [.int .i64 x.letters, .int .i64 x.start, v] x :: ps) :=
  S.upd fun f hf nd hl => ⟨f, ow_Turner (r := x) k0 k1 hf, nd, fun b hb => .inl hb, hl, But.refl _ _⟩

theorem readMv_range (u : List UInt8) : (-9223372036854775808 ≤ (readMv u).to ∧ (readMv u).to ≤ 9223372036854775807) ∧ (-9223372036854775808 ≤ (readMv u).dir ∧ (readMv u).dir ≤ 9223372036854775807) := by
  unfold readMv
  have h1 := numI_range (u.take (u.length - 1))
  have h2 := dirI_range u
  split
  · decide
  · split
    · decide
    · split
      · decide
      · exact ⟨h1, by simp only; omega⟩

theorem headT_len (s : List UInt8) : 4 ≤ (headT 4 s).length := by
  unfold headT padT
  rw [List.length_append, List.length_replicate]
  omega

theorem headT_le (s : List UInt8) (h : s.length ≤ 30000) : ∀ x, x ∈ headT 4 s → x.length ≤ 30000 := by
  intro x hx
  unfold headT padT at hx
  rcases List.mem_append.1 hx with hx | hx
  · have h1 := splitL_le 32 _ x hx
    have h2 : ((linesT s).headD []).length ≤ s.length := by
      have h3 := Lib.trimSuffix_le s [10]
      cases hl : linesT s with
      | nil => simp
      | cons a l =>
        have h4 := splitL_le 10 (Lib.trimSuffix s [10]) a (by show a ∈ linesT s; rw [hl]; simp)
        simp only [List.headD_cons]
        omega
    omega
  · rw [(List.mem_replicate.1 hx).2]; simp

theorem getD_mem {l : List (List UInt8)} {k : Nat} (h : k < l.length) : l.getD k [] ∈ l := by
  rw [List.getD_eq_getElem?_getD, List.getElem?_eq_getElem h]; exact List.getElem_mem h

theorem bytes_neR {x y : ByteArray} (h : ¬ x = y) : (x.toList == y.toList) = false := by
  rw [beq_eq_false_iff_ne]
  intro e
  apply h
  rw [ByteArray.toList_eq, ByteArray.toList_eq] at e
  obtain ⟨a⟩ := x
  obtain ⟨b⟩ := y
  have : a = b := Array.toList_inj.1 e
  rw [this]

set_option maxHeartbeats 8000000 in
set_option maxRecDepth 100000 in
theorem readTurner_any (s : List UInt8) (m : Int) (w : World) (hs : s.length ≤ 30000) (hM : MaxIsT m w.heap.size w) (h15 : ErrIs (Tryz.lays174_ren.g 15) w.heap.size w) (h16 : ErrIs (Tryz.lays174_ren.g 16) w.heap.size w) (hT : Pow10 w.heap.size w) :
    Calls Tryz.prog 13 #[.string (mkB s)] w (MakesC turnE (readT s) w) := by
  have S := (Star.nil w).alloc (cs := #[.int .i64 0, .int .i64 0, .slice none 0 0]) (ty := 24)
  by_cases hbig : 20000 < s.length
  · have hr : readT s = (noTurn, 2) := by unfold readT; rw [if_pos hbig]
    rw [hr]
    obtain ⟨T, hTT⟩ : ∃ T, T = mkB s := ⟨_, rfl⟩
    rw [← hTT]
    have t1 : (20000 : Int) < (T.size : Int) := by rw [hTT, mkB_size]; omega
    clear hr hTT hM h15 h16 hT hbig hs
    go_enter Tryz.func13, Tryz.ntmps13
    go_upto_region 1 with fail
    generalize hW : w.alloc _ = w0 at S ⊢
    clear hW
    obtain ⟨g, hg⟩ : ∃ g, g = w.heap.size := ⟨_, rfl⟩
    rw [← hg] at S ⊢
    clear hg
    have a0 := (S.blk 0 rfl).cell 0 rfl
    have a1 := (S.blk 0 rfl).cell 1 rfl
    have a2 := (S.blk 0 rfl).cell 2 rfl
    have af := (S.blk 0 rfl).free
    go_wp2
    generalize hW : ((w0.setCell _ _).setCell _ _).setCell _ _ = w1
    have S1 : Star w w1 [oB g [.int .i64 0, .int .i64 0, .slice none 0 0] 24] := hW ▸ ((S.set 0 _).set 1 _).set 2 _
    have q0 := (S1.blk 0 rfl).cell 0 rfl
    have q1 := (S1.blk 0 rfl).cell 1 rfl
    have q2 := (S1.blk 0 rfl).cell 2 rfl
    exact bodyPost_ret (v := .tuple #[.agg #[.int .i64 0, .int .i64 0, .slice none 0 0], .int .i64 2]) (by simp [results, Tryz.results13, go_sem, q0, q1, q2]) rfl (S1.flat (ow_noTurn _)).done
  -- the text is short enough
  obtain ⟨n, hn⟩ : ∃ n, (linesT s).length = n + 1 := by
    have : 0 < (linesT s).length := List.length_pos_iff.2 (splitL_ne 10 _)
    exact ⟨(linesT s).length - 1, by omega⟩
  have HHD := Lib.hid (fun w' (bl : Below w.heap.size w w') => headOf_any s m n w' (by omega) hn (hM.at bl))
  have hlen := headT_len s
  have hle := headT_le s (by omega)
  have HN1 := Lib.hid (fun w' (bl : Below w.heap.size w w') => number_any (mkB ((headT 4 s).getD 1 [])) w' (by have := hle _ (getD_mem (l := headT 4 s) (k := 1) (by omega)); rw [mkB_size]; omega) (h15.at bl) (h16.at bl))
  have HN3 := Lib.hid (fun w' (bl : Below w.heap.size w w') => number_any (mkB ((headT 4 s).getD 3 [])) w' (by have := hle _ (getD_mem (l := headT 4 s) (k := 3) (by omega)); rw [mkB_size]; omega) (h15.at bl) (h16.at bl))
  rw [mkB_data] at HN1 HN3
  have r1 := numI_range ((headT 4 s).getD 1 [])
  have r3 := numI_range ((headT 4 s).getD 3 [])
  obtain ⟨NL, hNL⟩ : ∃ x, x = numI ((headT 4 s).getD 1 []) := ⟨_, rfl⟩
  obtain ⟨NS, hNS⟩ : ∃ x, x = numI ((headT 4 s).getD 3 []) := ⟨_, rfl⟩
  rw [← hNL] at HN1 r1
  rw [← hNS] at HN3 r3
  obtain ⟨RS, hRS⟩ : ∃ x, x = ((linesT s).drop 1).map rowT := ⟨_, rfl⟩
  have hP : parseT s = ⟨NL, NS, RS⟩ := by unfold parseT; rw [← hNL, ← hNS, ← hRS]
  have hres : readT s = if validTurn ⟨NL, NS, RS⟩ = true ∧ turnL ⟨NL, NS, RS⟩ = s then (⟨NL, NS, RS⟩, 0) else (noTurn, 5) := by unfold readT; rw [if_neg hbig, hP]
  rw [hres]
  obtain ⟨RES, hRES⟩ : ∃ x : Turner × Int, x = if validTurn ⟨NL, NS, RS⟩ = true ∧ turnL ⟨NL, NS, RS⟩ = s then (⟨NL, NS, RS⟩, 0) else (noTurn, 5) := ⟨_, rfl⟩
  rw [← hRES]
  have HRES := Lib.hid hRES
  clear hRES
  have c1 := getD_map (headT 4 s) 1 (by omega)
  have c3 := getD_map (headT 4 s) 3 (by omega)
  obtain ⟨X1, hX1⟩ : ∃ x, x = mkB ((headT 4 s).getD 1 []) := ⟨_, rfl⟩
  obtain ⟨X3, hX3⟩ : ∃ x, x = mkB ((headT 4 s).getD 3 []) := ⟨_, rfl⟩
  rw [← hX1] at c1 HN1
  rw [← hX3] at c3 HN3
  obtain ⟨HD, hHD⟩ : ∃ x, x = headT 4 s := ⟨_, rfl⟩
  rw [← hHD] at c1 c3 HHD hlen
  obtain ⟨LN, hLN⟩ : ∃ x, x = linesT s := ⟨_, rfl⟩
  have hLe : ∀ x, x ∈ LN → x.length ≤ 30000 := by
    intro x hx
    rw [hLN] at hx
    have h1 := splitL_le 10 _ x hx
    have h2 := Lib.trimSuffix_le s [10]
    omega
  rw [← hLN] at HHD hRS hn
  have hRl : RS.length = n := by rw [hRS, List.length_map, List.length_drop]; omega
  have hn3 : n ≤ 30001 := by
    have h1 := splitL_len 10 (Lib.trimSuffix s [10])
    rw [show splitL 10 (Lib.trimSuffix s [10]) = LN from hLN.symm] at h1
    have h2 := Lib.trimSuffix_le s [10]
    omega
  have HTX := Lib.hid (fun w' cs B (bl : Below w.heap.size w w') (hB : B ≤ w'.heap.size) (h : turnE.rd w' B cs ⟨NL, NS, RS⟩) => turnText_any cs ⟨NL, NS, RS⟩ B w' hB h ((hT.step bl).up bl.size))
  have HVT := Lib.hid (fun w' cs B b (hB : B ≤ w'.heap.size) (h : turnE.rd w' B cs ⟨NL, NS, RS⟩) hb => validTurn_is b cs ⟨NL, NS, RS⟩ B w' hB h hb)
  have HRD := Lib.hid (fun u w' (hu : u.length ≤ 30000) (bl : Below w.heap.size w w') => readMove_any u m w' hu (hM.at bl) (h15.at bl) (h16.at bl))
  have HSP := Lib.hid (fun u k w' (hu : u.length ≤ 30000) hk (bl : Below w.heap.size w w') => split_any 32 u m k w' hk hu (hM.at bl))
  obtain ⟨T, hTT⟩ : ∃ T, T = mkB s := ⟨_, rfl⟩
  have hTeq : ∀ t : Turner, (turnL t = s) ↔ (⟨(turnL t).toArray⟩ : ByteArray) = T := by
    intro t
    rw [hTT]
    exact ⟨fun e => by rw [e]; rfl, fun e => mkB_inj e⟩
  have t1 : ¬ (20000 : Int) < (T.size : Int) := by rw [hTT, mkB_size]; omega
  rw [← hTT] at HHD ⊢
  have HTE := Lib.hid hTeq; have HLe := Lib.hid hLe; have HRS := Lib.hid hRS; have HLL := Lib.hid hn; have HRL := Lib.hid hRl
  have HC1 := Lib.hid c1; have HC3 := Lib.hid c3; have HLEN := Lib.hid hlen
  clear hM h15 h16 hT hbig hs hn hlen hle hNL hNS hRS hP hres c1 c3 hX1 hX3 hHD hLN hLe hRl hTT hTeq
  go_enter Tryz.func13, Tryz.ntmps13
  go_upto_region 1 with fail
  generalize hW : w.alloc _ = w0 at S ⊢
  clear hW
  obtain ⟨g2, hg2⟩ : ∃ g, g = w.heap.size := ⟨_, rfl⟩
  rw [← hg2] at S ⊢
  clear hg2
  go_wp2_with fail
  refine (HHD.out _ S.below).mono ?_
  rintro e w1 ⟨v, g, o, rfl, ho, SH⟩
  replace S := S.mergeR SH
  clear SH HHD
  obtain ⟨jb, jo, jn, jc, rfl, hjn, hjb, hjc⟩ := strs_cellsR (S.rd 0 rfl) (by rw [List.length_map]; have := HLEN.out; omega)
  have j1 := hjc 1 (by rw [List.length_map]; have := HLEN.out; omega)
  have j3 := hjc 3 (by rw [List.length_map]; have := HLEN.out; omega)
  rw [HC1.out] at j1
  rw [HC3.out] at j3
  rw [List.length_map] at hjn
  have hj4 : 4 ≤ jn := by have := HLEN.out; omega
  have l1 : (1 : Int) < (jn : Int) := by omega
  have l3 : (3 : Int) < (jn : Int) := by omega
  have l1n : 1 < jn := by omega
  have l3n : 3 < jn := by omega
  clear hjc hjn HC1 HC3 HLEN
  go_upto_region 4 with fail
  refine wp_region_m 11 (by kernel_rfl) rfl ?_
  intro w2 b2
  replace j1 := (b2.cell hjb).trans j1
  replace j3 := (b2.cell hjb).trans j3
  replace S := S.step b2
  replace hjb : jb < w2.heap.size := Nat.lt_of_lt_of_le hjb b2.size
  have hov := cell_over w2
  have BL := S.below
  clear b2
  refine wpM_read 0 rfl rfl (by kernel_rfl) (fun _ d _ _ _ h => by cases d <;> exact h) ?_
  go_big_quiet_step (fail)
  refine wpQuiet_nil ?_
  refine wpM_read 1 rfl rfl (by kernel_rfl) (fun _ d _ _ _ h => by cases d <;> exact h) ?_
  go_big_quiet_step (fail)
  refine wpQuiet_nil ?_
  refine wpM_read 2 rfl rfl (by kernel_rfl) (fun _ d _ _ _ h => by cases d <;> exact h) ?_
  go_big_quiet_step (fail)
  refine wpQuiet_nil ?_
  refine wpM_call 3 30 #[.string X1] (.int .i64 NL) rfl (by kernel_rfl) (fun _ d _ _ _ h => by cases d <;> exact h) rfl (fun x => by go_simp) (fun x bx => HN1.out x (BL.trans (bx.mono BL.size))) (fun K hK => ?_)
  go_simp
  refine hK _ ?_
  clear hK K
  refine wpM_read 4 rfl rfl (by kernel_rfl) (fun _ d _ _ _ h => by cases d <;> exact h) ?_
  go_big_quiet_step (fail)
  refine wpQuiet_nil ?_
  refine wpM_read 5 rfl rfl (by kernel_rfl) (fun _ d _ _ _ h => by cases d <;> exact h) ?_
  go_big_quiet_step (fail)
  refine wpQuiet_nil ?_
  refine wpM_read 6 rfl rfl (by kernel_rfl) (fun _ d _ _ _ h => by cases d <;> exact h) ?_
  go_big_quiet_step (fail)
  refine wpQuiet_nil ?_
  refine wpM_call 7 30 #[.string X3] (.int .i64 NS) rfl (by kernel_rfl) (fun _ d _ _ _ h => by cases d <;> exact h) rfl (fun x => by go_simp) (fun x bx => HN3.out x (BL.trans (bx.mono BL.size))) (fun K hK => ?_)
  go_simp
  refine hK _ ?_
  clear hK K
  refine wpM_read 8 rfl rfl (by kernel_rfl) (fun _ d _ _ _ h => by cases d <;> exact h) ?_
  go_big_quiet_step (fail)
  refine wpQuiet_nil ?_
  clear hov BL HN1 HN3 j1 j3 hjb l1 l3 l1n l3n
  refine wpM_ready [9] (by kernel_rfl) (by decide) (AllM.cons rfl (fun w3 b3 K hK => ?_) AllM.nil)
  go_simp
  have b7a : le w3 (w3.alloc (.cells #[.int .i64 0, .int .i64 0, .slice none 0 0] 24)) := (Below.refl _ _).alloc (Nat.le_refl _) _
  refine hK _ _ (.inr b7a) ?_
  clear hK K b7a
  replace S := (S.step b3).alloc (cs := #[.int .i64 0, .int .i64 0, .slice none 0 0]) (ty := 24)
  generalize hW2 : w3.alloc _ = w4 at S ⊢
  clear hW2 b3
  obtain ⟨gb, hgb⟩ : ∃ g, g = w3.heap.size := ⟨_, rfl⟩
  rw [← hgb] at S ⊢
  clear hgb
  refine wpM_ready [10] (by kernel_rfl) (by decide) (AllM.cons rfl (fun w5 b5 K hK => ?_) AllM.nil)
  replace S := S.step b5
  clear b5
  have D := S.blk 0 rfl
  have a0 := D.cell 0 rfl
  have a1 := D.cell 1 rfl
  have a2 := D.cell 2 rfl
  have af := D.free
  clear D
  go_simp
  refine hK _ _ (.inl (closes_of (by kernel_rfl))) ?_
  clear hK K
  refine wpM_done (by kernel_rfl) (fun w6 b6 => ?_)
  generalize hW3 : ((w5.setCell _ _).setCell _ _).setCell _ _ = w7 at b6
  have S7 : Star w w7 [oB gb [.int .i64 NL, .int .i64 NS, .slice none 0 0] 24, oE strsE [.slice (some ⟨jb, jo, none⟩) jn jc] (HD.map mkB), oB g (strsV LN) 9, oB g2 [.int .i64 0, .int .i64 0, .slice none 0 0] 24] := by rw [← hW3]; exact ((S.set 0 _).set 1 _).set 2 _
  replace S := ((S7.step b6).nils movesE 52).sel [1, 0, 2, 3, 4]
  clear b6 hW3 a0 a1 a2 af S7
  go_wp2
  go_loopw [32] (fun vi wr => ∃ (k : Nat) (v : Value), k ≤ n ∧ vi = .int .i64 k ∧ Star w wr [oB gb [.int .i64 NL, .int .i64 NS, v] 24, oE movessE [v] (RS.take k), oE strsE [.slice (some ⟨jb, jo, none⟩) jn jc] (HD.map mkB), oB g (strsV LN) 9, oB g2 [.int .i64 0, .int .i64 0, .slice none 0 0] 24]) (fun vi _ => n - (intOf vi).toNat)
  case atStart => exact ⟨0, _, by omega, rfl, S⟩
  case round =>
    clear S
    obtain ⟨k, v, hk, rfl, S⟩ := hrel
    obtain ⟨va, vn, vc, rfl⟩ := S.slc 1 rfl
    by_cases hlt : k < n
    case neg =>
      obtain rfl : k = n := by omega
      have ht : RS.take k = RS := List.take_of_length_le (by rw [HRL.out]; exact Nat.le_refl _)
      rw [ht] at S
      clear ht
      have hrd : turnE.rd wr wr.heap.size [.int .i64 NL, .int .i64 NS, .slice va vn vc] ⟨NL, NS, RS⟩ := (turn_owR (x := ⟨NL, NS, RS⟩) (S.sel [1]) r1 r3).rd 0 rfl
      have HRR := Lib.hid hrd
      have HRES := HRES
      obtain ⟨tt, htt⟩ : ∃ t : Turner, t = ⟨NL, NS, RS⟩ := ⟨_, rfl⟩
      rw [← htt] at HRR HVT HTX HRES
      have f0 := (S.blk 0 rfl).cell 0 rfl
      have f1 := (S.blk 0 rfl).cell 1 rfl
      have f2 := (S.blk 0 rfl).cell 2 rfl
      clear hrd HRD HSP HLe HRS HLL HRL hlt hn3
      cases hv : validTurn tt with
      | false =>
        have hr : RES = (noTurn, 5) := by rw [HRES.out, hv]; rfl
        have HV := Lib.hid (HVT.out wr _ _ false (Nat.le_refl _) HRR.out hv)
        have HRES2 := Lib.hid hr
        clear hr hv HVT HTX
        go_wp2_with fail
        refine HV.out.mono ?_
        rintro e w12 ⟨rfl, b12⟩
        replace S := S.step b12
        clear b12 HV f0 f1 f2
        have z0 := (S.blk 4 rfl).cell 0 rfl
        have z1 := (S.blk 4 rfl).cell 1 rfl
        have z2 := (S.blk 4 rfl).cell 2 rfl
        have zf := (S.blk 4 rfl).free
        go_wp2
        generalize hW : ((World.setCell _ _ _).setCell _ _).setCell _ _ = w20
        have S9 : Star w w20 [oB g2 [.int .i64 0, .int .i64 0, .slice none 0 0] 24] := hW ▸ (((S.sel [4]).set 0 _).set 1 _).set 2 _
        have q0 := (S9.blk 0 rfl).cell 0 rfl
        have q1 := (S9.blk 0 rfl).cell 1 rfl
        have q2 := (S9.blk 0 rfl).cell 2 rfl
        exact bodyPost_ret (v := .tuple #[.agg #[.int .i64 0, .int .i64 0, .slice none 0 0], .int .i64 5]) (by simp [results, Tryz.results13, go_sem, q0, q1, q2]) rfl (by rw [HRES2.out]; exact (S9.flat (ow_noTurn _)).done)
      | true =>
        have HV := Lib.hid (HVT.out wr _ _ true (Nat.le_refl _) HRR.out hv)
        have hrr : RES = if (⟨(turnL tt).toArray⟩ : ByteArray) = T then (tt, 0) else (noTurn, 5) := by
          rw [HRES.out]
          by_cases ht : turnL tt = s
          · rw [if_pos ⟨hv, ht⟩, if_pos ((HTE.out tt).1 ht)]
          · rw [if_neg (fun h => ht h.2), if_neg (fun h => ht ((HTE.out tt).2 h))]
        have htx : turnText tt = ⟨(turnL tt).toArray⟩ := by unfold turnText; rw [if_pos hv]
        rw [← htx] at hrr
        have HR2 := Lib.hid hrr
        clear hrr htx hv HVT
        go_wp2_with fail
        refine HV.out.mono ?_
        rintro e w12 ⟨rfl, b12⟩
        replace S := S.step b12
        have HRR2 := Lib.hid (turnE.rd_of (b12.mono (Nat.le_refl _)) HRR.out)
        have hle := b12.size
        clear b12 HV f0 f1 f2
        have f0 := (S.blk 0 rfl).cell 0 rfl
        have f1 := (S.blk 0 rfl).cell 1 rfl
        have f2 := (S.blk 0 rfl).cell 2 rfl
        obtain ⟨X, hX⟩ : ∃ X, X = turnText tt := ⟨_, rfl⟩
        rw [← hX] at HR2 HTX
        have HX := Lib.hid hX
        clear hX
        go_wp2_with fail
        refine (HTX.out w12 _ _ S.below hle HRR2.out).mono ?_
        rintro e w13 ⟨rfl, b13⟩
        replace S := S.step b13
        clear b13 hle HRR2 HTX HRR f0 f1 f2
        by_cases hXT : X = T
        · have hr : RES = (tt, 0) := by rw [HR2.out, if_pos hXT]
          rw [htt] at hr
          have HRES2 := Lib.hid hr
          have tA : (X.toList == T.toList) = true := by rw [hXT]; simp
          clear hXT hr HR2 HX htt
          have f0 := (S.blk 0 rfl).cell 0 rfl
          have f1 := (S.blk 0 rfl).cell 1 rfl
          have f2 := (S.blk 0 rfl).cell 2 rfl
          have z0 := (S.blk 4 rfl).cell 0 rfl
          have z1 := (S.blk 4 rfl).cell 1 rfl
          have z2 := (S.blk 4 rfl).cell 2 rfl
          have zf := (S.blk 4 rfl).free
          go_wp2
          generalize hW : ((World.setCell _ _ _).setCell _ _).setCell _ _ = w20
          have S9 : Star w w20 [oB g2 [.int .i64 NL, .int .i64 NS, .slice va vn vc] 24, oE movessE [.slice va vn vc] RS] := hW ▸ (((S.sel [4, 1]).set 0 _).set 1 _).set 2 _
          have q0 := (S9.blk 0 rfl).cell 0 rfl
          have q1 := (S9.blk 0 rfl).cell 1 rfl
          have q2 := (S9.blk 0 rfl).cell 2 rfl
          exact bodyPost_ret (v := .tuple #[.agg #[.int .i64 NL, .int .i64 NS, .slice va vn vc], .int .i64 0]) (by simp [results, Tryz.results13, go_sem, q0, q1, q2]) rfl (by rw [HRES2.out]; exact (turn_owR (x := ⟨NL, NS, RS⟩) (S9.sel [1]) r1 r3).done)
        · have hr : RES = (noTurn, 5) := by rw [HR2.out, if_neg hXT]
          have HRES2 := Lib.hid hr
          have tA : (X.toList == T.toList) = false := bytes_neR hXT
          clear hXT hr HR2 HX htt
          have z0 := (S.blk 4 rfl).cell 0 rfl
          have z1 := (S.blk 4 rfl).cell 1 rfl
          have z2 := (S.blk 4 rfl).cell 2 rfl
          have zf := (S.blk 4 rfl).free
          go_wp2
          generalize hW : ((World.setCell _ _ _).setCell _ _).setCell _ _ = w20
          have S9 : Star w w20 [oB g2 [.int .i64 0, .int .i64 0, .slice none 0 0] 24] := hW ▸ (((S.sel [4]).set 0 _).set 1 _).set 2 _
          have q0 := (S9.blk 0 rfl).cell 0 rfl
          have q1 := (S9.blk 0 rfl).cell 1 rfl
          have q2 := (S9.blk 0 rfl).cell 2 rfl
          exact bodyPost_ret (v := .tuple #[.agg #[.int .i64 0, .int .i64 0, .slice none 0 0], .int .i64 5]) (by simp [results, Tryz.results13, go_sem, q0, q1, q2]) rfl (by rw [HRES2.out]; exact (S9.flat (ow_noTurn _)).done)
    have ho1 : o = 1 := by have := ho.out; omega
    subst ho1
    obtain ⟨U, hU⟩ : ∃ U, U = LN.getD (1 + k) [] := ⟨_, rfl⟩
    have hkl : 1 + k < LN.length := by have := HLL.out; omega
    have hU3 : U.length ≤ 30000 := by rw [hU]; exact HLe.out _ (getD_mem hkl)
    have x1 := (S.blk 3 rfl).cell (1 + k) (v := .string (mkB U)) (by rw [hU]; exact strsV_get LN (1 + k) hkl)
    have hst : RS.take (k + 1) = RS.take k ++ [rowT U] := by
      have hk2 : k < RS.length := by rw [HRL.out]; exact hlt
      rw [List.take_succ_eq_append_getElem hk2]
      congr 2
      have e : RS[k]? = some (rowT U) := by
        rw [HRS.out, List.getElem?_map, List.getElem?_drop, hU, List.getD_eq_getElem?_getD, List.getElem?_eq_getElem hkl]
        rfl
      rw [List.getElem?_eq_getElem hk2] at e
      exact Option.some.inj e
    have hlm : (RS.take k).length ≤ 1000000000000 := by rw [List.length_take]; omega
    obtain ⟨nw, hnw⟩ : ∃ x, (splitL 32 U).length = x + 1 := by
      have : 0 < (splitL 32 U).length := List.length_pos_iff.2 (splitL_ne 32 U)
      exact ⟨(splitL 32 U).length - 1, by omega⟩
    have hnw3 : nw ≤ 30001 := by have := splitL_len 32 U; omega
    have HST := Lib.hid hst
    obtain ⟨WD, hWD⟩ : ∃ x, x = splitL 32 U := ⟨_, rfl⟩
    have hWl : ∀ x, x ∈ WD → x.length ≤ 30000 := by
      intro x hx; rw [hWD] at hx; have := splitL_le 32 U x hx; omega
    have HSU := Lib.hid (fun w' bl => HSP.out U (nw + 1) w' hU3 hnw bl)
    rw [← hWD] at HSU hnw
    obtain ⟨RW, hRW⟩ : ∃ x, x = rowT U := ⟨_, rfl⟩
    have hRW2 : RW = (WD.drop 1).map readMv := by rw [hRW, hWD]; rfl
    have hRWl : RW.length = nw := by rw [hRW2, List.length_map, List.length_drop]; omega
    rw [← hRW] at HST
    have HWL := Lib.hid hWl; have HRW := Lib.hid hRW2; have HNW := Lib.hid hnw; have HRWL := Lib.hid hRWl
    obtain ⟨U2, hU2⟩ : ∃ x, x = mkB U := ⟨_, rfl⟩
    rw [← hU2] at x1 HSU
    clear hU hkl hst hWD hnw hWl hRW hRW2 hRWl hU3 hU2
    have i1 : (0 : Int) ≤ (k : Int) := by omega
    have i2 : (k : Int) < (n : Int) := by omega
    have i3 : (1 : Int) ≤ (nw : Int) + 1 := by omega
    have S0 := ((S.alloc (cs := #[]) (ty := 54)).lit0 (α := Move) (E := moveE))
    go_wp2_with fail
    generalize hW : wr.alloc _ = w8 at S0 ⊢
    clear hW x1
    obtain ⟨g8, hg8⟩ : ∃ g, g = wr.heap.size := ⟨_, rfl⟩
    rw [← hg8] at S0 ⊢
    clear hg8 S
    refine (HSU.out _ S0.below).mono ?_
    rintro e w9 ⟨gw, rfl, SW⟩
    have S := S0.mergeR SW
    clear S0 SW HSU
    replace S := S.sel [1, 2, 3, 0, 4, 5, 6]
    by_cases hz : nw = 0
    · subst hz
      have hRW0 : RW = [] := List.eq_nil_of_length_eq_zero HRWL.out
      rw [hRW0] at HST
      clear hRW0
      go_wp2
      go_loopw [9, 41] (fun vl q wr => ∃ (j : Nat) (v2 : Value), j ≤ 0 ∧ vl = v2 ∧ q = .int .i64 j ∧ Star w wr [oE movesE [v2] [], oB gb [.int .i64 NL, .int .i64 NS, .slice va vn vc] 24, oE movessE [.slice va vn vc] (RS.take k), oB gw (strsV WD) 9, oE strsE [.slice (some ⟨jb, jo, none⟩) jn jc] (HD.map mkB), oB g (strsV LN) 9, oB g2 [.int .i64 0, .int .i64 0, .slice none 0 0] 24]) (fun _ q _ => 0)
      case atStart => exact ⟨0, _, Nat.le_refl _, rfl, rfl, S⟩
      case round =>
        clear S
        obtain ⟨j, v2, hj, rfl, rfl, S⟩ := hrel
        obtain rfl : j = 0 := by omega
        obtain ⟨la, ln, lc, rfl⟩ := S.slc 0 rfl
        have x2 := (S.blk 1 rfl).cell 2 rfl
        have SC := (S.alloc (cs := #[.slice la ln lc]) (ty := 52)).sel [3, 1, 2, 5, 6, 7]
        go_wp2_with (at_builtin; refine st1_MoveSS SC rfl rfl rfl rfl cell_a1 (one_mem rfl) hlm ?_; intro ja jn' jc' w9 S9; have x9 := (S9.blk 1 rfl).cell 2 rfl; have cf := (S9.blk 1 rfl).free)
        go_roundw
        case rel => exact ⟨k + 1, _, by omega, by go_num, by rw [HST.out]; exact ((S9.sel [1, 0, 2, 3, 4]).set 2 (.slice ja jn' jc'))⟩
        case measure => simp [intOf]; omega
    · have hz1 : ¬ (nw : Int) = 0 := by omega
      go_wp2
      go_loopw [9, 41] (fun vl q wr => ∃ (j : Nat) (v2 : Value), j ≤ nw ∧ vl = v2 ∧ q = .int .i64 j ∧ Star w wr [oE movesE [v2] (RW.take j), oB gb [.int .i64 NL, .int .i64 NS, .slice va vn vc] 24, oE movessE [.slice va vn vc] (RS.take k), oB gw (strsV WD) 9, oE strsE [.slice (some ⟨jb, jo, none⟩) jn jc] (HD.map mkB), oB g (strsV LN) 9, oB g2 [.int .i64 0, .int .i64 0, .slice none 0 0] 24]) (fun _ q _ => nw - (intOf q).toNat)
      case atStart => exact ⟨0, _, Nat.zero_le _, rfl, rfl, S⟩
      case round =>
        clear S
        obtain ⟨j, v2, hj, rfl, rfl, S⟩ := hrel
        by_cases hjl : j < nw
        case neg =>
          obtain rfl : j = nw := by omega
          have hfull : RW.take j = RW := List.take_of_length_le (by rw [HRWL.out]; exact Nat.le_refl _)
          rw [hfull] at S
          clear hfull
          obtain ⟨la, ln, lc, rfl⟩ := S.slc 0 rfl
          have x2 := (S.blk 1 rfl).cell 2 rfl
          have SC := (S.alloc (cs := #[.slice la ln lc]) (ty := 52)).sel [3, 1, 2, 5, 6, 7]
          go_wp2_with (at_builtin; refine st1_MoveSS SC rfl rfl rfl rfl cell_a1 (one_mem rfl) hlm ?_; intro ja jn' jc' w9 S9; have x9 := (S9.blk 1 rfl).cell 2 rfl; have cf := (S9.blk 1 rfl).free)
          go_roundw
          case rel => exact ⟨k + 1, _, by omega, by go_num, by rw [HST.out]; exact ((S9.sel [1, 0, 2, 3, 4]).set 2 (.slice ja jn' jc'))⟩
          case measure => simp [intOf]; omega
        obtain ⟨la, ln, lc, rfl⟩ := S.slc 0 rfl
        have hjw : 1 + j < WD.length := by have := HNW.out; omega
        obtain ⟨u, hu⟩ : ∃ u, u = WD.getD (1 + j) [] := ⟨_, rfl⟩
        have hu3 : u.length ≤ 30000 := by rw [hu]; exact HWL.out _ (getD_mem hjw)
        have y1 := (S.blk 3 rfl).cell (1 + j) (v := .string (mkB u)) (by rw [hu]; exact strsV_get WD (1 + j) hjw)
        have hst2 : RW.take (j + 1) = RW.take j ++ [readMv u] := by
          have hk2 : j < RW.length := by rw [HRWL.out]; exact hjl
          rw [List.take_succ_eq_append_getElem hk2]
          congr 2
          have e : RW[j]? = some (readMv u) := by
            rw [HRW.out, List.getElem?_map, List.getElem?_drop, hu, List.getD_eq_getElem?_getD, List.getElem?_eq_getElem hjw]
            rfl
          rw [List.getElem?_eq_getElem hk2] at e
          exact Option.some.inj e
        have hrg := readMv_range u
        have HRU := Lib.hid (fun w' bl => HRD.out u w' hu3 bl)
        obtain ⟨mv, hmv⟩ : ∃ x, x = readMv u := ⟨_, rfl⟩
        rw [← hmv] at hst2 hrg HRU
        obtain ⟨u2, hu2⟩ : ∃ x, x = mkB u := ⟨_, rfl⟩
        rw [← hu2] at y1 HRU
        have HST2 := Lib.hid hst2
        have hll : (RW.take j).length ≤ 1000000000000 := by rw [List.length_take]; omega
        have HRG := Lib.hid hrg
        have z1 : (0 : Int) ≤ (j : Int) := by omega
        have z2 : (j : Int) < (nw : Int) := by omega
        clear hjw hu hu3 hst2 hmv hu2 hrg
        go_wp2_with fail
        clear y1
        refine (HRU.out _ S.below).mono ?_
        rintro e w10 ⟨rfl, b10⟩
        replace S := S.step b10
        clear b10 HRU
        have SA := ((S.alloc (cs := #[.int .i64 mv.to, .int .i64 mv.dir]) (ty := 54)).move HRG.out.1 HRG.out.2).sel [2, 0, 3, 4, 5, 6, 7, 8]
        go_wp2_with (at_builtin; refine st1_MoveS SA rfl rfl rfl rfl cell_a1 (one_mem2 rfl rfl) hll ?_; intro ta tn tc w11 S11)
        go_roundw
        case rel => exact ⟨j + 1, _, by omega, rfl, by go_num, by rw [HST2.out]; exact S11⟩
        case measure => simp [intOf]; omega

end Go.Proofs.YtodoghidckelcaaGreatDoor
