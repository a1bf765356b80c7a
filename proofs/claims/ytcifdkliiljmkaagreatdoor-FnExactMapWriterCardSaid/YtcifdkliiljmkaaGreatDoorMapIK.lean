/-
  MapWriter of the program.
-/
import Derived.Test.YtcifdkliiljmkaaGreatDoorMapOK
import Derived.Test.YtcifdkliiljmkaaGreatDoorOwnTurnK
import Derived.Test.YtcifdkliiljmkaaGreatDoorRepRK
import Derived.Test.YtcifdkliiljmkaaGreatDoorCalmK
namespace Go.Proofs.YtcifdkliiljmkaaGreatDoor
open Go.RowKit

set_option maxHeartbeats 1000000 in
theorem notOutM_any (t : ByteArray) (w : World) (hs : t.size ≤ maxLen) :
    Calls Tryz.prog 53 #[.string t] w (Gives (.bool (!outOk t)) w) := by
  obtain ⟨r, hr⟩ : ∃ r, r = outOk t := ⟨_, rfl⟩
  rw [← hr]
  have HR := Lib.hid hr.symm
  clear hr
  cases r <;>
  · go_enter Tryz.func53, Tryz.ntmps53
    go_wp2_with fail
    refine (isOut_is _ _ _ HR.out hs).mono ?_
    rintro e w1 ⟨rfl, hB⟩
    go_wp2
    go_ret
    exact ⟨rfl, hB⟩

set_option maxRecDepth 100000 in
theorem containsOutM_is (b : Bool) (v : Value) (l : List ByteArray) (B : Nat) (w : World) (hB0 : B ≤ w.heap.size) (h : strsE.rd w B [v] l) (hb : l.all outOk = b) :
    Calls Tryz.prog 52 #[v, .func (.func 53) #[] #[]] w (Gives (.bool (!b)) w) := by
  subst hb
  rw [← any_out]
  refine containsFunc_strs v l B w _ #[] #[] _ hB0 h ?_ ?_
  · intro args w1
    rfl
  · intro vk z w1 _ hz
    obtain ⟨hv, hs⟩ := hz
    obtain rfl : vk = .string z := by simpa using hv
    exact notOutM_any z w1 hs

theorem rd_Writer' {w : World} {B : Nat} {v2 v3 : Value} {r : Writer} (h : writE.rd w B [.int .i64 r.turner.letters, .int .i64 r.turner.start, v2, v3] r) : turnE.rd w B [.int .i64 r.turner.letters, .int .i64 r.turner.start, v2] r.turner := by
  obtain ⟨v2', v3', e, h2, -⟩ := rd_Writer h
  simp only [List.cons.injEq, and_true, true_and] at e
  rw [e.1]
  exact h2

theorem mapText_size {a b c x : ByteArray} (ha : outOk a = true) (hb : outOk b = true) (hc : outOk c = true) (hx : outOk x = true) : (mapText [a, b, c] x).size ≤ 9 := by
  have h1 := out_size ha; have h2 := out_size hb; have h3 := out_size hc; have h4 := out_size hx
  have h5 := fm_bound (fun d => (([a, b, c] : List ByteArray).getD (d.toNat - 97) ByteArray.empty).data.toList) x.data.toList (fun d hd => by
    unfold outOk at hx
    rw [Bool.and_eq_true, List.all_eq_true] at hx
    rcases abc_cases (hx.2 d hd) with rfl | rfl | rfl
    · show a.data.toList.length ≤ 3; rw [← Lib.size_eq]; exact h1
    · show b.data.toList.length ≤ 3; rw [← Lib.size_eq]; exact h2
    · show c.data.toList.length ≤ 3; rw [← Lib.size_eq]; exact h3)
  rw [← Lib.size_eq] at h5
  have e : (mapText [a, b, c] x).size = (x.data.toList.flatMap fun d => (([a, b, c] : List ByteArray).getD (d.toNat - 97) ByteArray.empty).data.toList).length := by
    rw [Lib.size_eq]
    simp [mapText, mapL]
  omega

theorem repL_size {a b c : ByteArray} (ha : outOk a = true) (hb : outOk b = true) (hc : outOk c = true) : ∀ y, y ∈ repL a b c → y.size ≤ maxLen := by
  intro y hy
  have h1 := out_size ha; have h2 := out_size hb; have h3 := out_size hc
  simp only [repL, List.mem_cons, List.not_mem_nil, or_false] at hy
  simp only [maxLen]
  rcases hy with rfl | rfl | rfl | rfl | rfl | rfl
  · decide
  · omega
  · decide
  · omega
  · decide
  · omega

set_option maxHeartbeats 8000000 in
set_option maxRecDepth 100000 in
theorem implMap_is (x : Writer × Int) (cs : List Value) (r : Writer) (v1 : Value) (ws : List ByteArray) (B : Nat) (w : World) (hB0 : B ≤ w.heap.size) (h : writE.rd w B cs r) (h1 : strsE.rd w B [v1] ws) (hx : mapWriter r ws = x) :
    Calls Tryz.prog 21 #[.agg cs.toArray, v1] w (MakesC writE x w) := by
  have HX := Lib.hid hx
  have RA := Lib.hid h; have RB := Lib.hid h1
  obtain ⟨v2, v3, rfl, b0, b1, h2, h3⟩ := rd_WriterF h
  obtain ⟨ta, tn, tc, rfl⟩ := rd_slice h2
  obtain ⟨oa, oc, rfl, -, -, -, q4⟩ := rd_slice1 rfl h3
  obtain ⟨ja, jc, rfl, -, -, -, j4⟩ := rd_strs h1
  obtain ⟨m, hm⟩ : ∃ m, m = r.out.length := ⟨_, rfl⟩
  obtain ⟨n, hn⟩ : ∃ n, n = ws.length := ⟨_, rfl⟩
  rw [← hm] at q4 RA ⊢
  rw [← hn] at j4 RB ⊢
  have HM := Lib.hid hm; have HN := Lib.hid hn; have Q4 := Lib.hid q4; have J4 := Lib.hid j4
  have RTU := Lib.hid (rd_Writer' RA.out)
  clear h h1 h2 h3 hx hm hn q4 j4
  have S := ((Star.nil w).alloc (cs := #[.int .i64 r.turner.letters, .int .i64 r.turner.start, .slice ta tn tc, .slice oa m oc]) (ty := 40)).alloc (cs := #[.int .i64 0, .int .i64 0, .slice none 0 0, .slice none 0 0]) (ty := 40)
  rw [World.size_alloc] at S
  go_enter Tryz.func21, Tryz.ntmps21
  go_wp2_with fail
  generalize hW : (w.alloc _).alloc _ = w0 at S ⊢
  clear hW
  obtain ⟨gz, hgz⟩ : ∃ g, g = w.heap.size + 1 := ⟨_, rfl⟩
  obtain ⟨gx, hgx⟩ : ∃ g, g = w.heap.size := ⟨_, rfl⟩
  rw [← hgz, ← hgx] at S ⊢
  clear hgz hgx
  have BW := S.below
  cases hv : writerOk r
  case false =>
    refine (validWriter_is false _ r B w0 (Nat.le_trans hB0 BW.size) (writE.rd_of (BW.mono hB0) RA.out) hv).mono ?_
    rintro e w1 ⟨rfl, b⟩
    replace S := S.step b
    have HV := Lib.hid hv
    clear b BW hv
    have R0 := S.blk 0 rfl
    have c0 := R0.cell 0 rfl
    have c1 := R0.cell 1 rfl
    have c2 := R0.cell 2 rfl
    have c3 := R0.cell 3 rfl
    have f0 := R0.free
    go_wp2
    generalize hW : (((w1.setCell _ _).setCell _ _).setCell _ _).setCell _ _ = w9
    replace S := S.set4 rfl hW
    have A3 := S.blk 0 rfl
    have q0 := A3.cell 0 rfl
    have q1 := A3.cell 1 rfl
    have q2 := A3.cell 2 rfl
    have q3 := A3.cell 3 rfl
    obtain rfl : x = (default, 1) := by rw [← HX.out]; unfold mapWriter; rw [HV.out]; rfl
    exact bodyPost_ret (v := .tuple #[.agg #[.int .i64 0, .int .i64 0, .slice none 0 0, .slice none 0 0], .int .i64 1]) (by simp [results, Tryz.results21, go_sem, q0, q1, q2, q3]) rfl (S.flat (ow_Writer_zero _)).done
  refine (validWriter_is true _ r B w0 (Nat.le_trans hB0 BW.size) (writE.rd_of (BW.mono hB0) RA.out) hv).mono ?_
  rintro e w1 ⟨rfl, b⟩
  replace S := S.step b
  have K := writOk_of hv
  have HV := Lib.hid hv
  have HK := Lib.hid K
  clear b BW hv K
  by_cases hn3 : n = 3
  case neg =>
    have t1 : ((n : Int) != 3) = true := by simp; omega
    have R0 := S.blk 0 rfl
    have c0 := R0.cell 0 rfl
    have c1 := R0.cell 1 rfl
    have c2 := R0.cell 2 rfl
    have c3 := R0.cell 3 rfl
    have f0 := R0.free
    go_wp2
    generalize hW : (((w1.setCell _ _).setCell _ _).setCell _ _).setCell _ _ = w9
    replace S := S.set4 rfl hW
    have A3 := S.blk 0 rfl
    have q0 := A3.cell 0 rfl
    have q1 := A3.cell 1 rfl
    have q2 := A3.cell 2 rfl
    have q3 := A3.cell 3 rfl
    obtain rfl : x = (default, 1) := by rw [← HX.out]; unfold mapWriter; rw [HV.out, decide_eq_false (by rw [← HN.out]; exact hn3)]; rfl
    exact bodyPost_ret (v := .tuple #[.agg #[.int .i64 0, .int .i64 0, .slice none 0 0, .slice none 0 0], .int .i64 1]) (by simp [results, Tryz.results21, go_sem, q0, q1, q2, q3]) rfl (S.flat (ow_Writer_zero _)).done
  subst hn3
  have BW := S.below
  have RB1 := Lib.hid (strsE.rd_of (BW.mono hB0) RB.out)
  have hB1 := Nat.le_trans hB0 BW.size
  go_wp2_with fail
  cases ho : ws.all outOk
  case false =>
    refine (containsOutM_is false _ ws B w1 hB1 RB1.out ho).mono ?_
    rintro e w2 ⟨rfl, b⟩
    replace S := S.step b
    have HO := Lib.hid ho
    clear b BW ho hB1 RB1
    have R0 := S.blk 0 rfl
    have c0 := R0.cell 0 rfl
    have c1 := R0.cell 1 rfl
    have c2 := R0.cell 2 rfl
    have c3 := R0.cell 3 rfl
    have f0 := R0.free
    go_wp2
    generalize hW : (((w2.setCell _ _).setCell _ _).setCell _ _).setCell _ _ = w9
    replace S := S.set4 rfl hW
    have A3 := S.blk 0 rfl
    have q0 := A3.cell 0 rfl
    have q1 := A3.cell 1 rfl
    have q2 := A3.cell 2 rfl
    have q3 := A3.cell 3 rfl
    obtain rfl : x = (default, 1) := by rw [← HX.out]; unfold mapWriter; rw [HV.out, HO.out, Bool.and_false]; rfl
    exact bodyPost_ret (v := .tuple #[.agg #[.int .i64 0, .int .i64 0, .slice none 0 0, .slice none 0 0], .int .i64 1]) (by simp [results, Tryz.results21, go_sem, q0, q1, q2, q3]) rfl (S.flat (ow_Writer_zero _)).done
  refine (containsOutM_is true _ ws B w1 hB1 RB1.out ho).mono ?_
  rintro e w2 ⟨rfl, b⟩
  replace S := S.step b
  clear b BW hB1 RB1
  obtain ⟨a, b, c, rfl⟩ : ∃ a b c, ws = [a, b, c] := by
    match ws, HN.out with
    | [a, b, c], _ => exact ⟨a, b, c, rfl⟩
  simp only [List.all_cons, List.all_nil, Bool.and_true, Bool.and_eq_true] at ho
  have ha := ho.1
  have hb := ho.2.1
  have hc := ho.2.2
  have HX2 : Hid (x = if writerOk (mapW r [a, b, c]) then (mapW r [a, b, c], 0) else (default, 3)) := Lib.hid (by
    rw [← HX.out]; unfold mapWriter; rw [HV.out]; simp only [List.all_cons, List.all_nil, ha, hb, hc]; rfl)
  obtain ⟨jb, jo, rfl, hjb, c0, -⟩ := J4.out 0 (by simp)
  obtain ⟨jb', jo', e1, -, c1, -⟩ := J4.out 1 (by simp)
  obtain ⟨jb'', jo'', e2, -, c2, -⟩ := J4.out 2 (by simp)
  cases e1
  cases e2
  replace c0 : w.cell? ⟨jb, jo, none⟩ = some (.string a) := c0
  replace c1 : w.cell? ⟨jb, jo + 1, none⟩ = some (.string b) := c1
  replace c2 : w.cell? ⟨jb, jo + 2, none⟩ = some (.string c) := c2
  have ha := Lib.hid ha; have hb := Lib.hid hb; have hc := Lib.hid hc
  clear ho HX J4 RB HN
  go_upto_region 3 with fail
  refine wp_region_m 12 (by kernel_rfl) rfl ?_
  intro w3 b3
  replace S := S.step b3
  clear b3
  have BW := S.below
  have hjw : jb < w.heap.size := Nat.lt_of_lt_of_le hjb hB0
  have d0 := (BW.cell hjw).trans c0
  have d1 := (BW.cell hjw).trans c1
  have d2 := (BW.cell hjw).trans c2
  have hjl : jb < w3.heap.size := Nat.lt_of_lt_of_le hjw BW.size
  have hov := cell_over w3
  clear c0 c1 c2
  refine wpM_read 0 rfl rfl (by kernel_rfl) (fun _ d _ _ _ h => by cases d <;> exact h) ?_
  go_big_quiet_step (fail)
  refine wpQuiet_nil ?_
  refine wpM_read 1 rfl rfl (by kernel_rfl) (fun _ d _ _ _ h => by cases d <;> exact h) ?_
  go_big_quiet_step (fail)
  refine wpQuiet_nil ?_
  refine wpM_read 2 rfl rfl (by kernel_rfl) (fun _ d _ _ _ h => by cases d <;> exact h) ?_
  go_big_quiet_step (fail)
  refine wpQuiet_nil ?_
  refine wpM_read 3 rfl rfl (by kernel_rfl) (fun _ d _ _ _ h => by cases d <;> exact h) ?_
  go_big_quiet_step (fail)
  refine wpQuiet_nil ?_
  refine wpM_read 4 rfl rfl (by kernel_rfl) (fun _ d _ _ _ h => by cases d <;> exact h) ?_
  go_big_quiet_step (fail)
  refine wpQuiet_nil ?_
  refine wpM_read 5 rfl rfl (by kernel_rfl) (fun _ d _ _ _ h => by cases d <;> exact h) ?_
  go_big_quiet_step (fail)
  refine wpQuiet_nil ?_
  refine wpM_read 6 rfl rfl (by kernel_rfl) (fun _ d _ _ _ h => by cases d <;> exact h) ?_
  go_big_quiet_step (fail)
  refine wpQuiet_nil ?_
  refine wpM_read 7 rfl rfl (by kernel_rfl) (fun _ d _ _ _ h => by cases d <;> exact h) ?_
  go_big_quiet_step (fail)
  refine wpQuiet_nil ?_
  refine wpM_read 8 rfl rfl (by kernel_rfl) (fun _ d _ _ _ h => by cases d <;> exact h) ?_
  go_big_quiet_step (fail)
  refine wpQuiet_nil ?_
  clear hov d0 d1 d2 hjl BW
  refine wpM_ready [9] (by kernel_rfl) (by decide) (AllM.cons rfl (fun w4 b4 K hK => ?_) AllM.nil)
  go_simp
  refine hK _ _ (.inr ((Below.refl w4.heap.size w4).alloc (Nat.le_refl _) _)) ?_
  clear hK K
  have SA := ((S.step b4).alloc (cs := #[.string ⟨#[97]⟩, .string a, .string ⟨#[98]⟩, .string b, .string ⟨#[99]⟩, .string c]) (ty := 9)).lit (E := strE) (repL a b c) Value.string rfl rfl (fun y hy => ⟨⟨rfl, repL_size ha.out hb.out hc.out y hy⟩, rfl⟩) (by simp [repL, maxLen])
  have HRD := Lib.hid (SA.rd 0 rfl)
  generalize hW : w4.alloc _ = w5 at S SA HRD ⊢
  obtain ⟨gl, hgl⟩ : ∃ g, g = w4.heap.size := ⟨_, rfl⟩
  rw [← hgl] at SA HRD ⊢
  clear hW hgl b4 S
  refine wpM_ready [10] (by kernel_rfl) (by decide) (AllM.cons rfl (fun w6 b6 K hK => ?_) AllM.nil)
  go_simp
  go_at_call 55
  refine (newReplacer_any _ a b c [] w5.heap.size w6 w6 b6.size (Star.nil w6) (strsE.rd_of b6 HRD.out)).mono ?_
  rintro e w7 ⟨rp, rfl, SR⟩
  try go_simp
  refine hK _ _ (.inr SR.below) ?_
  clear hK K
  replace S := ((SA.step b6).mergeZ SR).sel [2, 3, 0]
  clear SA SR HRD b6
  refine wpM_read 11 rfl rfl (by kernel_rfl) (fun _ d _ _ _ h => by cases d <;> exact h) ?_
  go_big_quiet_step (fail)
  refine wpQuiet_nil ?_
  refine wpM_done (by kernel_rfl) (fun w8 b8 => ?_)
  replace S := S.step b8
  clear b8
  have BW := S.below
  have RT := Lib.hid (turnE.rd_of (BW.mono hB0) (show turnE.rd w B [.int .i64 r.turner.letters, .int .i64 r.turner.start, .slice ta tn tc] r.turner from RTU.out))
  have hB8 := Nat.le_trans hB0 BW.size
  have x0 := (S.blk 1 rfl).cell 0 rfl
  have x1 := (S.blk 1 rfl).cell 1 rfl
  have x2 := (S.blk 1 rfl).cell 2 rfl
  clear BW
  go_wp2_with fail
  refine (ownTurner_any _ r.turner B w8 hB8 RT.out HK.out.v).mono ?_
  rintro e w9 ⟨cs, fp, rfl, o, nd, lo, b9⟩
  obtain ⟨v5, rfl, -, -, o5⟩ := rd_Turner (Enc.rd_ow _ o)
  obtain ⟨ua, un, uc, rfl⟩ := rd_slice o5
  replace S := (S.made o nd lo b9).moves
  clear o5 o nd lo b9 x0 x1 x2 RT hB8
  have y3 := fun o => cell_al ((S.blk 2 rfl).cell 3 rfl) o
  replace S := ((S.alloc (cs := #[.int .i64 r.turner.letters, .int .i64 r.turner.start, .slice ua un uc, .slice none 0 0]) (ty := 40)).nils strsE 51).sel [1, 3, 2, 0, 5]
  go_wp2
  generalize hW : w9.alloc _ = w10 at S ⊢
  obtain ⟨g, hg⟩ : ∃ g, g = w9.heap.size := ⟨_, rfl⟩
  rw [← hg] at S ⊢
  clear hW hg y3
  have hm12 : m ≤ 12 := by rw [HM.out, HK.out.n]; exact HK.out.t.n12
  go_loopw [44] (fun q wr => ∃ (k : Nat) (vo : Value), k ≤ m ∧ q = .int .i64 k ∧ Star w wr [oB g [.int .i64 r.turner.letters, .int .i64 r.turner.start, .slice ua un uc, vo] 40, oB gz [.int .i64 0, .int .i64 0, .slice none 0 0, .slice none 0 0] 40, oE movessE [.slice ua un uc] r.turner.moves, oE strssE [vo] ((r.out.take k).map (List.map (mapText [a, b, c]))), oRep rp a b c]) (fun q _ => m - (intOf q).toNat)
  case atStart => exact ⟨0, _, by omega, rfl, S⟩
  case round =>
    clear S
    obtain ⟨k, vo, hk, rfl, S⟩ := hrel
    obtain ⟨va, vn, vc, rfl⟩ := S.slc 3 rfl
    by_cases hlt : k < m
    case neg =>
      obtain rfl : k = m := by omega
      rw [List.take_of_length_le (by rw [HM.out]; exact Nat.le_refl _)] at S
      have HRD := Lib.hid (show writE.rd wr wr.heap.size [.int .i64 r.turner.letters, .int .i64 r.turner.start, .slice ua un uc, .slice va vn vc] (mapW r [a, b, c]) from rd_writE (r := mapW r [a, b, c]) (S.rd 2 rfl) (S.rd 3 rfl) b0 b1)
      have f0 := (S.blk 0 rfl).cell 0 rfl
      have f1 := (S.blk 0 rfl).cell 1 rfl
      have f2 := (S.blk 0 rfl).cell 2 rfl
      have f3 := (S.blk 0 rfl).cell 3 rfl
      obtain ⟨y, hy⟩ : ∃ y, y = mapW r [a, b, c] := ⟨_, rfl⟩
      rw [← hy] at HX2 HRD
      have HY := Lib.hid hy
      clear hy
      cases hv : writerOk y
      case false =>
        obtain rfl : x = (default, 3) := by rw [HX2.out, hv]; rfl
        have HV2 := Lib.hid hv
        clear hv HX2
        go_wp2_with fail
        refine (writerOr_no _ y _ wr (Nat.le_refl _) HRD.out HV2.out).mono ?_
        rintro e w11 ⟨rfl, b11⟩
        replace S := S.step b11
        clear f0 f1 f2 f3
        have A0 := S.blk 1 rfl
        have d0 := A0.cell 0 rfl
        have d1 := A0.cell 1 rfl
        have d2 := A0.cell 2 rfl
        have d3 := A0.cell 3 rfl
        have df := A0.free
        go_wp2
        generalize hW : (((w11.setCell _ _).setCell _ _).setCell _ _).setCell _ _ = w12
        have S10 := (S.sel [1]).set4 rfl hW
        have A3 := S10.blk 0 rfl
        have q0 := A3.cell 0 rfl
        have q1 := A3.cell 1 rfl
        have q2 := A3.cell 2 rfl
        have q3 := A3.cell 3 rfl
        exact bodyPost_ret (v := .tuple #[.agg #[.int .i64 0, .int .i64 0, .slice none 0 0, .slice none 0 0], .int .i64 3]) (by simp [results, Tryz.results21, go_sem, q0, q1, q2, q3]) rfl (S10.flat (ow_Writer_zero _)).done
      case true =>
        obtain rfl : x = (y, 0) := by rw [HX2.out, hv]; rfl
        have HV2 := Lib.hid hv
        clear hv HX2
        go_wp2_with fail
        refine (writerOr_yes _ y _ wr (Nat.le_refl _) HRD.out HV2.out).mono ?_
        rintro e w11 ⟨rfl, b11⟩
        replace S := S.step b11
        clear f0 f1 f2 f3
        have A0 := S.blk 1 rfl
        have d0 := A0.cell 0 rfl
        have d1 := A0.cell 1 rfl
        have d2 := A0.cell 2 rfl
        have d3 := A0.cell 3 rfl
        have df := A0.free
        go_wp2
        generalize hW : (((w11.setCell _ _).setCell _ _).setCell _ _).setCell _ _ = w12
        have S10 := (S.sel [1, 2, 3]).set4 rfl hW
        have A3 := S10.blk 0 rfl
        have q0 := A3.cell 0 rfl
        have q1 := A3.cell 1 rfl
        have q2 := A3.cell 2 rfl
        have q3 := A3.cell 3 rfl
        obtain rfl := HY.out
        exact bodyPost_ret (v := .tuple #[.agg #[.int .i64 r.turner.letters, .int .i64 r.turner.start, .slice ua un uc, .slice va vn vc], .int .i64 0]) (by simp [results, Tryz.results21, go_sem, q0, q1, q2, q3]) rfl (writ_doneM (x := mapW r [a, b, c]) (S10.sel [1, 2]) b0 b1)
    obtain ⟨rb, ro, vk, rfl, -, hrc, hrd⟩ := Q4.out k hlt
    have hk2 : k < r.out.length := by rw [← HM.out]; exact hlt
    have hst : (r.out.take (k + 1)).map (List.map (mapText [a, b, c])) = (r.out.take k).map (List.map (mapText [a, b, c])) ++ [(r.out[k]?.getD default).map (mapText [a, b, c])] := by
      rw [List.take_succ_eq_append_getElem hk2, List.map_append, List.getElem?_eq_getElem hk2]
      rfl
    have hmem := mem_getD (l := r.out) (k := k) hk2
    have hr5 : (r.out[k]?.getD default).length ≤ 5 := HK.out.len hmem
    have hrow : ∀ t, t ∈ r.out[k]?.getD default → outOk t = true := (HK.out.row k hk2).2
    obtain ⟨row, hrow2⟩ : ∃ y, y = r.out[k]?.getD default := ⟨_, rfl⟩
    rw [← hrow2] at hrd hrow hst hr5
    obtain ⟨ma, mc, rfl, -, -, -, m4⟩ := rd_strs hrd
    obtain ⟨rl, hrl⟩ : ∃ y, y = row.length := ⟨_, rfl⟩
    rw [← hrl] at m4 hrc hr5
    have HST := Lib.hid hst; have HROW := Lib.hid hrow; have M4 := Lib.hid m4; have HRL := Lib.hid hrl
    have BW := S.below
    have cr := (BW.cell (World.block_lt_of_cell? w _ hrc)).trans hrc
    clear hmem hst hrow hrow2 hrd m4 hrl hrc BW
    replace S := ((S.alloc (cs := #[]) (ty := 9)).lit0 (α := ByteArray) (E := strE))
    go_wp2
    generalize hW : wr.alloc _ = w6 at S ⊢
    clear hW cr
    obtain ⟨g6, hg6⟩ : ∃ g, g = wr.heap.size := ⟨_, rfl⟩
    rw [← hg6] at S ⊢
    clear hg6
    go_loopw [10, 51] (fun vl q wr => ∃ (i : Nat) (v : Value), i ≤ rl ∧ vl = v ∧ q = .int .i64 i ∧ Star w wr [oE strsE [v] ((row.take i).map (mapText [a, b, c])), oB g [.int .i64 r.turner.letters, .int .i64 r.turner.start, .slice ua un uc, .slice va vn vc] 40, oB gz [.int .i64 0, .int .i64 0, .slice none 0 0, .slice none 0 0] 40, oE movessE [.slice ua un uc] r.turner.moves, oE strssE [.slice va vn vc] ((r.out.take k).map (List.map (mapText [a, b, c]))), oRep rp a b c]) (fun _ q _ => rl - (intOf q).toNat)
    case atStart => exact ⟨0, _, by omega, rfl, rfl, S⟩
    case round =>
      clear S
      obtain ⟨i, v, hi, rfl, rfl, S⟩ := hrel
      obtain ⟨la, ln, lc, rfl⟩ := S.slc 0 rfl
      by_cases hil : i < rl
      case neg =>
        obtain rfl : rl = i := by omega
        have hfull : row.take rl = row := by rw [HRL.out]; exact List.take_length
        rw [hfull] at S
        have hlm : ((r.out.take k).map (List.map (mapText [a, b, c]))).length ≤ 1000000000000 := by
          rw [List.length_map, List.length_take]; have := HK.out.t.n12; have := HK.out.n; omega
        have x3 := (S.blk 1 rfl).cell 3 rfl
        have SC := (S.alloc (cs := #[.slice la ln lc]) (ty := 51)).sel [5, 1, 2, 3, 4, 6]
        go_wp2_with (at_builtin; refine st1_StringSS SC rfl rfl rfl rfl cell_a1 (one_mem rfl) hlm ?_; intro ja jn jc w9 S9; have x9 := (S9.blk 1 rfl).cell 3 rfl; have cf := (S9.blk 1 rfl).free)
        go_roundw
        case rel => exact ⟨k + 1, _, by omega, by go_num, by rw [HST.out]; exact (S9.sel [1, 2, 3, 0, 4]).set 3 (.slice ja jn jc)⟩
        case measure => simp [intOf]; omega
      obtain ⟨sb, so, rfl, -, hc0, -⟩ := M4.out i hil
      have hi2 : i < row.length := by rw [← HRL.out]; exact hil
      have hok : outOk (row[i]?.getD ByteArray.empty) = true := HROW.out _ (by rw [List.getElem?_eq_getElem hi2]; exact List.getElem_mem hi2)
      have hst2 : (row.take (i + 1)).map (mapText [a, b, c]) = (row.take i).map (mapText [a, b, c]) ++ [mapText [a, b, c] (row[i]?.getD ByteArray.empty)] := by
        rw [List.take_succ_eq_append_getElem hi2, List.map_append, List.getElem?_eq_getElem hi2]
        rfl
      have hll : ((row.take i).map (mapText [a, b, c])).length ≤ 1000000000000 := by rw [List.length_map, List.length_take]; omega
      obtain ⟨t, ht⟩ : ∃ y, y = row[i]?.getD ByteArray.empty := ⟨_, rfl⟩
      rw [← ht] at hc0 hok hst2
      have hsz := mapText_size ha.out hb.out hc.out hok
      have HREP := Lib.hid (fun w' ps (S' : Star w w' (oRep rp a b c :: ps)) => repReplace_any rp a b c t ps w w' ha.out hb.out hc.out hok S')
      obtain ⟨y, hy⟩ : ∃ y, y = mapText [a, b, c] t := ⟨_, rfl⟩
      rw [← hy] at hst2 hsz HREP
      have HS2 := Lib.hid hst2
      have BW := S.below
      have q0 := (BW.cell (World.block_lt_of_cell? w _ hc0)).trans hc0
      clear hc0 hst2 hy ht hok BW hi2
      replace S := S.sel [5, 0, 1, 2, 3, 4]
      go_wp2_with fail
      refine (HREP.out _ _ S).mono ?_
      rintro e w7 ⟨rfl, S7⟩
      have SB := ((S7.alloc (cs := #[.string y]) (ty := 9)).str (x := y) (by simp only [maxLen]; omega)).sel [3, 0, 4, 5, 6, 7, 2]
      clear S S7 q0
      go_wp2_with (at_builtin; refine st1_StringS SB rfl rfl rfl rfl cell_a1 (one_mem rfl) hll ?_; intro ja jn jc w9 S9)
      go_roundw
      case rel => exact ⟨i + 1, _, by omega, rfl, by go_num, by rw [HS2.out]; exact S9⟩
      case measure => simp [intOf]; omega

end Go.Proofs.YtcifdkliiljmkaaGreatDoor
