/-
  What the program's writer writes on a word.
-/
import Derived.Test.YtjochoghmpcgdaaDoorWrtDefK
import Derived.Test.YtjochoghmpcgdaaDoorRunRK
import Derived.Test.YtjochoghmpcgdaaDoorBldSK
import Derived.Deep.DeepCutAuto
namespace Go.Proofs.YtjochoghmpcgdaaDoor
open Go.RowKit

theorem toList_cat (a b : ByteArray) : (a ++ b).data.toList = a.data.toList ++ b.data.toList := by
  rw [ByteArray.data_append, Array.toList_append]

theorem flat_int : ∀ w cs x f, intE.ow w cs x f → f = [] := fun _ _ _ _ h => h.2

theorem far4 {g g' : Nat} {cs cs' : List Value} {v v' : Value} {M : List Int} {L : List Pl} : ∀ P, P ∈ [oB g cs 96, oE (sliceE intE 2) [v] M, oE plsE [v'] L, oB g' cs' 30] → P.Far := by
  intro P hP
  simp only [List.mem_cons, List.not_mem_nil, or_false] at hP
  rcases hP with rfl | rfl | rfl | rfl
  · exact far_oB (by decide) (by decide)
  · exact far_flat flat_int (by decide) (by decide)
  · exact far_flat flat_pl (by decide) (by decide)
  · exact far_oB (by decide) (by decide)

set_option maxHeartbeats 8000000 in
set_option maxRecDepth 100000 in
theorem written_any (W : Writer) (X : ByteArray) (T : ByteArray × Int) (ta tp tc oa op oc : Nat) (w : World) (h : RdT W.turner w ta tp tc) (ho : RdO W w oa op oc) (hx : wordOk W.turner.letters.toNat X.data.toList) (hX : X.size ≤ 1000) (hT : writtenT W X.data.toList = T) :
    Calls Tryd.prog 25 #[.agg #[.int .i64 W.turner.letters, .int .i64 W.turner.start, .slice (some ⟨ta, tp, none⟩) W.turner.moves.length tc, .slice (some ⟨oa, op, none⟩) W.turner.moves.length oc], .string X] w (WrIs T w) := by
  have K := ho.ok
  have hinv := runT_inv K.t hx
  obtain ⟨⟨L, vd⟩, hR⟩ : ∃ R, R = runT W.turner X.data.toList := ⟨_, rfl⟩
  obtain ⟨c, hc⟩ : ∃ c : Nat, W.turner.letters = c := ⟨W.turner.letters.toNat, by have := K.t.l1; omega⟩
  have hcn : W.turner.letters.toNat = c := by omega
  have hc3 : c ≤ 3 := by have := K.t.l3; omega
  obtain ⟨st, hst⟩ : ∃ s, s = W.turner.start := ⟨_, rfl⟩
  obtain ⟨n, hn⟩ : ∃ n, n = W.turner.moves.length := ⟨_, rfl⟩
  have hrun := fun w' (hb : Below w.heap.size w w') => run_any W.turner X (L, vd) ta tp tc w' (h.of hb) hx hX hR.symm
  rw [hc, ← hst, ← hn] at hrun
  have HRUN := Lib.hid hrun
  rw [← hR] at hinv
  unfold writtenT at hT
  rw [← hR] at hT
  simp only at hT hinv
  have hll := hinv.len
  have hxl : X.data.toList.length = X.size := by rw [Array.length_toList]; rfl
  have hnm : W.turner.moves.length * (X.data.toList.length + 2) ≤ 12 * 1002 := Nat.mul_le_mul K.t.n12 (by omega)
  have hL : L.length ≤ 12024 := by omega
  have hn12 : n ≤ 12 := by rw [hn]; exact K.t.n12
  rw [hc, ← hst, ← hn]
  rw [hcn] at hx
  have HO := Lib.hid ho; have HK := Lib.hid K; have HX := Lib.hid hx; have HI := Lib.hid hinv; have HC := Lib.hid hcn; have HN := Lib.hid hn
  clear hR h ho K hx hinv hll hnm hxl hrun hc hcn hst hn
  have S := (Star.nil w).alloc (cs := #[.int .i64 (c : Nat), .int .i64 st, .slice (some ⟨ta, tp, none⟩) n tc, .slice (some ⟨oa, op, none⟩) n oc]) (ty := 30)
  go_enter Tryd.func25, Tryd.ntmps25
  go_wp2_with fail
  generalize hW : w.alloc _ = w0 at S ⊢
  obtain ⟨g2, hg2⟩ : ∃ g, g = w.heap.size := ⟨_, rfl⟩
  rw [← hg2] at S ⊢
  clear hW hg2
  refine (HRUN.out w0 (S.below.mono (Nat.le_refl _))).mono ?_
  rintro e w1 ⟨v, f, i, rfl, o1, o2, o3, o4⟩
  replace S := S.made o1 o2 o3 o4
  clear o1 o2 o3 o4 HRUN
  obtain ⟨sa, sc, rfl⟩ := S.slen 0 rfl
  by_cases hv : vd = 1
  case neg =>
    have tA : (vd != 1) = true := by simpa using hv
    rw [if_neg hv] at hT
    subst hT
    clear hv
    go_wp2
    go_ret3
    exact ⟨_, rfl, S.below⟩
  have tA : (vd != 1) = false := by simpa using hv
  rw [if_pos hv] at hT
  clear hv
  have HT := Lib.hid hT
  clear hT
  have S0 := ((S.bldNew.alloc (cs := #[]) (ty := 2)).lit0 (E := intE)).sel [1, 0, 2, 3]
  rw [World.size_alloc] at S0
  go_wp2
  generalize hW : (w1.alloc _).alloc _ = w2 at S0 ⊢
  obtain ⟨gb, hgb⟩ : ∃ g, g = w1.heap.size := ⟨_, rfl⟩
  rw [← hgb] at S0 ⊢
  clear hW hgb S
  go_loopw [11, 28] (fun vp vk wr => ∃ (k : Nat) (v5 : Value) (bl : List UInt8) (M : List Int), k ≤ L.length ∧ vp = v5 ∧ vk = .int .i64 k ∧ Star w wr [oBld gb bl, oE (sliceE intE 2) [v5] M, oE plsE [.slice sa L.length sc] L, oB g2 [.int .i64 (c : Nat), .int .i64 st, .slice (some ⟨ta, tp, none⟩) n tc, .slice (some ⟨oa, op, none⟩) n oc] 30] ∧ Hid (bl = (textOf W X.data.toList (L.take k)).data.toList) ∧ bl.length ≤ 3 * k ∧ M.length = bl.length) (fun _ vk _ => L.length - (intOf vk).toNat)
  case atStart => exact ⟨0, _, [], [], Nat.zero_le _, rfl, rfl, S0, Lib.hid rfl, Nat.le_refl _, rfl⟩
  case round =>
    clear S0
    obtain ⟨k, v5, bl, M, hk, rfl, rfl, S, HTX, hsz, hML⟩ := hrel
    by_cases hkl : k < L.length
    case neg =>
      have hkL : k = L.length := by omega
      have hTx : bl = (textOf W X.data.toList L).data.toList := by rw [HTX.out, hkL, List.take_length]
      have hT2 := HT.out
      have hsz2 : (textOf W X.data.toList L).size = bl.length := by rw [hTx, Array.length_toList]; rfl
      have htx2 : textOf W X.data.toList L = ⟨bl.toArray⟩ := by rw [hTx]
      rw [hsz2, htx2] at hT2
      clear hTx HTX hkL hsz2 htx2 HT
      have HLEN := Lib.hid S.blen
      go_wp2_with fail
      refine HLEN.out.mono ?_
      rintro e w3 ⟨rfl, rfl⟩
      by_cases hb : 2000 < bl.length
      · rw [if_pos hb] at hT2
        subst hT2
        have hb2 : (2000 : Int) < (bl.length : Int) := by omega
        go_wp2
        go_ret3
        exact ⟨_, rfl, S.below⟩
      · rw [if_neg hb] at hT2
        subst hT2
        have hb2 : ¬ (2000 : Int) < (bl.length : Int) := by omega
        have HSTR := Lib.hid S.bstr
        go_wp2_with fail
        refine HSTR.out.mono ?_
        rintro e w4 ⟨rfl, b4⟩
        go_wp2
        go_ret3
        exact ⟨_, rfl, b4⟩
    obtain ⟨b, o, cap, hv, q1, q2, q3⟩ := S.pls 2 rfl (Nat.lt_of_le_of_lt (Nat.zero_le _) hkl)
    simp only [Value.slice.injEq] at hv
    obtain ⟨rfl, -, rfl⟩ := hv
    obtain ⟨⟨p1, p2⟩, hpe⟩ : ∃ p, p = L[k] := ⟨_, rfl⟩
    have hge : L[k]? = some (p1, p2) := by rw [hpe]; exact List.getElem?_eq_getElem hkl
    obtain ⟨x0, x1⟩ := q3 k _ hge
    have hplt := HI.out.lt (p1, p2) (List.mem_of_getElem? hge)
    obtain ⟨hp1, hp2⟩ := hplt
    simp only at hp1 hp2 x0 x1
    have hsn := textOf_snoc W X.data.toList L k _ hge
    have hos := outAt_size HK.out X.data.toList (p1, p2)
    have K := HK.out.t
    have hbl := belowN_lt (c := W.turner.letters.toNat) (by rw [HC.out]; exact HX.out) p2
    have hoe : outAt W X.data.toList (p1, p2) = (W.out[p1]?.getD default)[belowN W.turner.letters.toNat X.data.toList p2]?.getD ByteArray.empty := rfl
    obtain ⟨oT, hoT⟩ : ∃ z, z = outAt W X.data.toList (p1, p2) := ⟨_, rfl⟩
    rw [← hoT] at hsn hos hoe
    have hbn : bl ++ oT.data.toList = (textOf W X.data.toList (L.take (k + 1))).data.toList := by rw [hsn, toList_cat, HTX.out]
    have HBN := Lib.hid hbn
    have hO := HO.out.of (S.below.mono (Nat.le_refl _))
    obtain ⟨rb, ro, rc, k1, k2, k3, k4⟩ := hO.rows p1 hp1
    obtain ⟨y, hy⟩ : ∃ y, y = belowN W.turner.letters.toNat X.data.toList p2 := ⟨_, rfl⟩
    rw [← hy] at hbl hoe
    have z0 := (k4 y hbl).1
    rw [← hoe] at z0
    have hcap := hO.cap
    rw [HC.out] at hbl k1 k2 hy
    have hxl : X.data.toList.length = X.size := by rw [Array.length_toList]; rfl
    have HB := Lib.hid (show ∀ w', Calls Tryd.prog 51 #[.int .i64 (c : Nat), .string X, .int .i64 (p2 : Nat)] w' (Gives (.int .i64 (y : Nat)) w') from fun w' => (below_k c hc3 X HX.out hX p2 w').mono (by rintro e w2 ⟨rfl, rfl⟩; exact ⟨by rw [hy], Below.refl _ _⟩))
    rw [← HN.out] at hp1 hcap
    have i1 : (0 : Int) ≤ (k : Int) := by omega
    have i2 : (k : Int) < (L.length : Int) := by omega
    have j1 : (0 : Int) ≤ (p1 : Int) := by omega
    have j2 : (p1 : Int) < (n : Int) := by omega
    have j3 : (0 : Int) ≤ (y : Int) := by omega
    have j4 : (y : Int) < ((c + 2 : Nat) : Int) := by omega
    have hod : oT.data.toList.length = oT.size := by rw [Array.length_toList]; rfl
    have HGE := Lib.hid hge
    clear hpe hge hsn hoe hO hy k4 K HTX q3 hoT hbn
    replace S := S.alloc (cs := #[.int .i64 (p1 : Nat), .int .i64 (p2 : Nat)]) (ty := 96)
    have S4 := (Star.nil wr).alloc (cs := #[.int .i64 (p1 : Nat), .int .i64 (p2 : Nat)]) (ty := 96)
    go_upto_region 9 with fail
    generalize hW : wr.alloc _ = w3 at S S4 ⊢
    obtain ⟨gp, hgp⟩ : ∃ g, g = wr.heap.size := ⟨_, rfl⟩
    rw [← hgp] at S S4 ⊢
    clear hW hgp
    refine wp_region_m 16 (by kernel_rfl) rfl ?_
    intro w4 b4
    replace S4 := S4.step b4
    replace S := S.step b4
    have BW := S4.below
    clear x0 x1
    replace k1 := (BW.cell (World.block_lt_of_cell? wr _ k1)).trans k1
    replace z0 := (BW.cell (World.block_lt_of_cell? wr _ z0)).trans z0
    have x0 := (S.blk 0 rfl).cell 0 rfl
    have x1 := (S.blk 0 rfl).cell 1 rfl
    have c0 := (S.blk 4 rfl).cell 0 rfl
    have c3 := (S.blk 4 rfl).cell 3 rfl
    have gl1 := (S.blk 0 rfl).lt
    have gl2 := (S.blk 4 rfl).lt
    have gl3 := World.block_lt_of_cell? w4 _ k1
    have gl4 := World.block_lt_of_cell? w4 _ z0
    have hov := cell_over w4
    clear b4
    refine wpM_read 0 rfl rfl (by kernel_rfl) (fun _ d _ _ _ h => by cases d <;> exact h) ?_
    go_big_quiet_step (fail)
    refine wpQuiet_nil ?_
    refine wpM_read 1 rfl rfl (by kernel_rfl) (fun _ d _ _ _ h => by cases d <;> exact h) ?_
    go_big_quiet_step (fail)
    refine wpQuiet_nil ?_
    refine wpM_read 2 rfl rfl (by kernel_rfl) (fun _ d _ _ _ h => by cases d <;> exact h) ?_
    go_big_quiet_step (fail)
    refine wpQuiet_nil ?_
    refine wpM_read 3 rfl rfl (by kernel_rfl) (fun _ d _ _ _ h => by cases d <;> exact h) ?_
    go_big_quiet_step (fail)
    refine wpQuiet_nil ?_
    refine wpM_read 4 rfl rfl (by kernel_rfl) (fun _ d _ _ _ h => by cases d <;> exact h) ?_
    go_big_quiet_step (fail)
    refine wpQuiet_nil ?_
    refine wpM_read 5 rfl rfl (by kernel_rfl) (fun _ d _ _ _ h => by cases d <;> exact h) ?_
    go_big_quiet_step (fail)
    refine wpQuiet_nil ?_
    refine wpM_read 6 rfl rfl (by kernel_rfl) (fun _ d _ _ _ h => by cases d <;> exact h) ?_
    go_big_quiet_step (fail)
    refine wpQuiet_nil ?_
    refine wpM_read 7 rfl rfl (by kernel_rfl) (fun _ d _ _ _ h => by cases d <;> exact h) ?_
    go_big_quiet_step (fail)
    refine wpQuiet_nil ?_
    refine wpM_read 8 rfl rfl (by kernel_rfl) (fun _ d _ _ _ h => by cases d <;> exact h) ?_
    go_big_quiet_step (fail)
    refine wpQuiet_nil ?_
    refine wpM_read 9 rfl rfl (by kernel_rfl) (fun _ d _ _ _ h => by cases d <;> exact h) ?_
    go_big_quiet_step (fail)
    refine wpQuiet_nil ?_
    refine wpM_read 10 rfl rfl (by kernel_rfl) (fun _ d _ _ _ h => by cases d <;> exact h) ?_
    go_big_quiet_step (fail)
    refine wpQuiet_nil ?_
    refine wpM_read 11 rfl rfl (by kernel_rfl) (fun _ d _ _ _ h => by cases d <;> exact h) ?_
    go_big_quiet_step (fail)
    refine wpQuiet_nil ?_
    refine wpM_call 12 51 #[.int .i64 (c : Nat), .string X, .int .i64 (p2 : Nat)] (.int .i64 (y : Nat)) rfl (by kernel_rfl) (fun _ d _ _ _ h => by cases d <;> exact h) rfl (fun x => by go_simp) (fun x _ => HB.out x) (fun K hK => ?_)
    go_simp
    refine hK _ ?_
    clear hK K
    refine wpM_read 13 rfl rfl (by kernel_rfl) (fun _ d _ _ _ h => by cases d <;> exact h) ?_
    go_big_quiet_step (fail)
    refine wpQuiet_nil ?_
    refine wpM_read 14 rfl rfl (by kernel_rfl) (fun _ d _ _ _ h => by cases d <;> exact h) ?_
    go_big_quiet_step (fail)
    refine wpQuiet_nil ?_
    refine wpM_read 15 rfl rfl (by kernel_rfl) (fun _ d _ _ _ h => by cases d <;> exact h) ?_
    go_big_quiet_step (fail)
    refine wpQuiet_nil ?_
    refine wpM_done (by kernel_rfl) (fun w6 b6 => ?_)
    replace S := S.step b6
    clear b6 x0 x1 c0 c3 k1 z0 gl1 gl2 gl3 gl4 hov BW S4 HB j1 j2 j3 j4
    have SW := S.sel [1, 0, 2, 3, 4]
    have HW := Lib.hid (SW.write far4 oT (by omega))
    go_wp2_with fail
    refine HW.out.mono ?_
    rintro e w7 ⟨rfl, S7⟩
    clear HW SW S
    go_wp2
    have hbs : (bl ++ oT.data.toList).length = bl.length + oT.size := by rw [List.length_append, hod]
    have HBS := Lib.hid hbs
    clear hbs
    go_loopw [11, 51] (fun vp vj wr => ∃ (j : Nat) (v5 : Value) (M : List Int), j ≤ oT.size ∧ vp = v5 ∧ vj = .int .i64 j ∧ Star w wr [oBld gb (bl ++ oT.data.toList), oB gp [.int .i64 (p1 : Nat), .int .i64 (p2 : Nat)] 96, oE (sliceE intE 2) [v5] M, oE plsE [.slice (some ⟨b, o, none⟩) L.length sc] L, oB g2 [.int .i64 (c : Nat), .int .i64 st, .slice (some ⟨ta, tp, none⟩) n tc, .slice (some ⟨oa, op, none⟩) n oc] 30] ∧ M.length = bl.length + j) (fun _ vj _ => oT.size - (intOf vj).toNat)
    case atStart => exact ⟨0, _, M, Nat.zero_le _, rfl, rfl, S7, hML⟩
    case round =>
      clear S7 hML
      obtain ⟨j, v6, M, hj, rfl, rfl, S, hML⟩ := hrel
      by_cases hjl : j < oT.size
      case neg =>
        have hjo : j = oT.size := by omega
        go_wp2
        go_roundw
        case rel => exact ⟨k + 1, _, bl ++ oT.data.toList, M, by omega, rfl, by go_num, S.sel [0, 2, 3, 4], HBN, by rw [HBS.out]; omega, by rw [HBS.out, hML, hjo]⟩
        case measure => simp [intOf]; omega
      have x1 := (S.blk 1 rfl).cell 1 rfl
      have hlm : M.length ≤ 1000000000000 := by omega
      have SB := ((S.alloc (cs := #[.int .i64 (p2 : Nat)]) (ty := 2)).int (x := (p2 : Nat)) ⟨by omega, by omega⟩).sel [4, 0, 2, 3, 5, 6]
      go_wp2_with (at_builtin; refine st1_Int64S SB rfl rfl rfl rfl cell_a1 (one_mem rfl) hlm ?_; intro ja jn jc w9 S9)
      go_roundw
      case rel => exact ⟨j + 1, _, _, by omega, rfl, by go_num, S9.sel [1, 2, 0, 3, 4], by rw [List.length_append, hML]; rfl⟩
      case measure => simp [intOf]; omega

end Go.Proofs.YtjochoghmpcgdaaDoor
