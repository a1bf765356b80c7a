/-
  What the specification's writer writes on a word.
-/
import Derived.Test.YtjochoghmpcgdaaDoorPackB
import Derived.Test.YtjochoghmpcgdaaDoorRunSRK
import Derived.Test.YtjochoghmpcgdaaDoorPackC
import Derived.Deep.DeepCutAuto
namespace Go.Proofs.YtjochoghmpcgdaaDoor
open Go.RowKit

set_option maxHeartbeats 8000000 in
set_option maxRecDepth 100000 in
theorem swritten_any (W : Writer) (X : ByteArray) (T : ByteArray × Int) (g : Nat) (w : World) (h : RdWP W w g) (hx : wordOk W.turner.letters.toNat X.data.toList) (hX : X.size ≤ 1000) (hT : writtenT W X.data.toList = T) :
    Calls Tryd.prog 29 #[.pointer (some ⟨g, 0, none⟩), .string X] w (WrIs T w) := by
  have gl : g < w.heap.size := by obtain ⟨_, _, _, h1, _⟩ := h.o; exact World.block_lt_of_cell? w _ h1
  have K := h.o.choose_spec.choose_spec.choose_spec.2.ok
  have hinv := runT_inv K.t hx
  obtain ⟨⟨L, vd⟩, hR⟩ : ∃ R, R = runT W.turner X.data.toList := ⟨_, rfl⟩
  have HRUN := Lib.hid (srun_any W.turner X (L, vd) g w h.t hx hX hR.symm)
  rw [← hR] at hinv
  unfold writtenT at hT
  rw [← hR] at hT
  simp only at hT hinv
  have hll := hinv.len
  have hxl : X.data.toList.length = X.size := by rw [Array.length_toList]; rfl
  have hnm : W.turner.moves.length * (X.data.toList.length + 2) ≤ 12 * 1002 := Nat.mul_le_mul K.t.n12 (by omega)
  have hL : L.length ≤ 12024 := by omega
  have HH := Lib.hid h; have HK := Lib.hid K; have HX := Lib.hid hx; have HI := Lib.hid hinv
  clear hR h K hx hinv hll hnm hxl
  go_enter Tryd.func29, Tryd.ntmps29
  go_wp2_with fail
  refine HRUN.out.mono ?_
  rintro e w1 ⟨v, f, i, rfl, o1, o2, o3, o4⟩
  have S := (Star.nil w).made o1 o2 o3 o4
  clear o1 o2 o3 o4 HRUN
  by_cases hv : vd = 1
  case neg =>
    have tA : (vd != 1) = true := by simpa using hv
    rw [if_neg hv] at hT
    subst hT
    clear hv
    go_wp2
    go_ret3
    exact ⟨_, rfl, S.alloc.below⟩
  have tA : (vd != 1) = false := by simpa using hv
  rw [if_pos hv] at hT
  clear hv
  have HT := Lib.hid hT
  clear hT
  have S0 := (S.alloc (cs := #[]) (ty := 2)).lit0 (E := intE)
  go_wp2
  go_loopw [10, 11, 12] (fun vt vp vk wr => ∃ (k : Nat) (v5 : Value) (Tx : ByteArray) (M : List Int), k ≤ L.length ∧ vt = .string Tx ∧ vp = v5 ∧ vk = .int .i64 k ∧ Star w wr [oE (sliceE intE 2) [v5] M, oE plsE [v] L] ∧ Hid (Tx = textOf W X.data.toList (L.take k)) ∧ Tx.size ≤ 3 * k ∧ M.length = Tx.size) (fun _ _ vk _ => L.length - (intOf vk).toNat)
  case atStart => exact ⟨0, _, ⟨#[]⟩, [], Nat.zero_le _, rfl, rfl, rfl, S0, Lib.hid rfl, Nat.le_refl _, rfl⟩
  case round =>
    clear S S0
    obtain ⟨k, v5, Tx, M, hk, rfl, rfl, rfl, S, HTX, hsz, hML⟩ := hrel
    obtain ⟨sa, sc, rfl⟩ := S.slen 1 rfl
    by_cases hkl : k < L.length
    case neg =>
      have hkL : k = L.length := by omega
      have hTx : Tx = textOf W X.data.toList L := by rw [HTX.out, hkL, List.take_length]
      have hT2 := HT.out
      rw [← hTx] at hT2
      by_cases hb : 2000 < Tx.size
      · rw [if_pos hb] at hT2
        subst hT2
        have hb2 : (2000 : Int) < (Tx.size : Int) := by omega
        clear hTx HTX hkL
        go_wp2
        go_ret3
        exact ⟨_, rfl, S.alloc.below⟩
      · rw [if_neg hb] at hT2
        subst hT2
        have hb2 : ¬ (2000 : Int) < (Tx.size : Int) := by omega
        clear hTx HTX hkL
        go_wp2
        go_ret3
        exact ⟨_, rfl, S.below⟩
    obtain ⟨b, o, cap, hv, q1, q2, q3⟩ := S.pls 1 rfl (Nat.lt_of_le_of_lt (Nat.zero_le _) hkl)
    simp only [Value.slice.injEq] at hv
    obtain ⟨rfl, -, rfl⟩ := hv
    obtain ⟨⟨p1, p2⟩, hpe⟩ : ∃ p, p = L[k] := ⟨_, rfl⟩
    have hge : L[k]? = some (p1, p2) := by rw [hpe]; exact List.getElem?_eq_getElem hkl
    obtain ⟨x0, x1⟩ := q3 k _ hge
    have hplt := HI.out.lt (p1, p2) (List.mem_of_getElem? hge)
    obtain ⟨hp1, hp2⟩ := hplt
    simp only at hp1 hp2 x0 x1
    have hsn := textOf_snoc W X.data.toList L k _ hge
    rw [← HTX.out] at hsn
    have hos := outAt_size HK.out X.data.toList (p1, p2)
    have K := HK.out.t
    have hbl := belowN_lt HX.out p2
    have hoe : outAt W X.data.toList (p1, p2) = (W.out[p1]?.getD default)[belowN W.turner.letters.toNat X.data.toList p2]?.getD ByteArray.empty := rfl
    obtain ⟨oT, hoT⟩ : ∃ z, z = outAt W X.data.toList (p1, p2) := ⟨_, rfl⟩
    rw [← hoT] at hsn hos hoe
    have HSN := Lib.hid hsn
    have hW := HH.out.of (S.below.mono (Nat.le_refl _))
    obtain ⟨oa, op, oc, c3, hO⟩ := hW.o
    obtain ⟨ta, tp, tc, c0, -, -, -⟩ := hW.t.get
    obtain ⟨rb, ro, rc, k1, k2, k3, k4⟩ := hO.rows p1 hp1
    obtain ⟨y, hy⟩ : ∃ y, y = belowN W.turner.letters.toNat X.data.toList p2 := ⟨_, rfl⟩
    rw [← hy] at hbl hoe
    have z0 := (k4 y hbl).1
    rw [← hoe] at z0
    have hcap := hO.cap
    have hpx : p2 < X.size + 2 := by
      have hxl : X.data.toList.length = X.size := by rw [Array.length_toList]; rfl
      omega
    have HB := Lib.hid (show ∀ w', Below wr.heap.size wr w' → Calls Tryd.prog 57 #[.pointer (some ⟨g, 0, none⟩), .string X, .int .i64 (p2 : Nat)] w' (Gives (.int .i64 (y : Nat)) w') from fun w' hb => (sbelow_any W.turner g X p2 w' ((hb.cell (World.block_lt_of_cell? wr _ c0)).trans c0) K.l1 K.l3 HX.out hX hpx).mono (by rintro e w2 ⟨rfl, rfl⟩; exact ⟨by rw [hy], Below.refl _ _⟩))
    obtain ⟨c, hc⟩ : ∃ c, c = W.turner.letters.toNat := ⟨_, rfl⟩
    rw [← hc] at hbl k1 k2
    have hc3 : c ≤ 3 := by have := K.l3; omega
    obtain ⟨n, hn⟩ : ∃ n, n = W.turner.moves.length := ⟨_, rfl⟩
    rw [← hn] at hp1 c3 hcap
    have hn12 : n ≤ 12 := by rw [hn]; exact K.n12
    have i1 : (0 : Int) ≤ (k : Int) := by omega
    have i2 : (k : Int) < (L.length : Int) := by omega
    have j1 : (0 : Int) ≤ (p1 : Int) := by omega
    have j2 : (p1 : Int) < (n : Int) := by omega
    have j3 : (0 : Int) ≤ (y : Int) := by omega
    have j4 : (y : Int) < ((c + 2 : Nat) : Int) := by omega
    have hcat : Tx.size + oT.size ≤ 9223372036854775807 := by omega
    have HGE := Lib.hid hge
    clear hpe hge hsn hoe hW hO hy k4 K hc hn c0 HTX q3 hoT
    go_upto_region 9 with fail
    refine wp_region_m 24 (by kernel_rfl) rfl ?_
    intro w4 b4
    have S4 := (Star.nil wr).step b4
    replace S := S.step b4
    have BW := S4.below
    replace x0 := (BW.cell (World.block_lt_of_cell? wr _ x0)).trans x0
    replace x1 := (BW.cell (World.block_lt_of_cell? wr _ x1)).trans x1
    replace c3 := (BW.cell (World.block_lt_of_cell? wr _ c3)).trans c3
    replace k1 := (BW.cell (World.block_lt_of_cell? wr _ k1)).trans k1
    replace z0 := (BW.cell (World.block_lt_of_cell? wr _ z0)).trans z0
    have gl1 := World.block_lt_of_cell? w4 _ x0
    have gl2 := World.block_lt_of_cell? w4 _ c3
    have gl3 := World.block_lt_of_cell? w4 _ k1
    have gl4 := World.block_lt_of_cell? w4 _ z0
    have hov := cell_over w4
    clear b4
    refine wpM_read 0 rfl rfl (by kernel_rfl) (fun _ d _ _ _ h => by cases d <;> exact h) ?_
    go_big_quiet_step (fail)
    refine wpQuiet_nil ?_
    refine wpM_read 1 rfl rfl (by kernel_rfl) (fun _ d _ _ _ h => by cases d <;> exact h) ?_
    go_big_quiet_step (fail)
    refine wpQuiet_nil ?_
    refine wpM_read 2 rfl rfl (by kernel_rfl) (fun _ d _ _ _ h => by cases d <;> exact h) ?_
    go_big_quiet_step (fail)
    refine wpQuiet_nil ?_
    refine wpM_read 3 rfl rfl (by kernel_rfl) (fun _ d _ _ _ h => by cases d <;> exact h) ?_
    go_big_quiet_step (fail)
    refine wpQuiet_nil ?_
    refine wpM_read 4 rfl rfl (by kernel_rfl) (fun _ d _ _ _ h => by cases d <;> exact h) ?_
    go_big_quiet_step (fail)
    refine wpQuiet_nil ?_
    refine wpM_read 5 rfl rfl (by kernel_rfl) (fun _ d _ _ _ h => by cases d <;> exact h) ?_
    go_big_quiet_step (fail)
    refine wpQuiet_nil ?_
    refine wpM_read 6 rfl rfl (by kernel_rfl) (fun _ d _ _ _ h => by cases d <;> exact h) ?_
    go_big_quiet_step (fail)
    refine wpQuiet_nil ?_
    refine wpM_read 7 rfl rfl (by kernel_rfl) (fun _ d _ _ _ h => by cases d <;> exact h) ?_
    go_big_quiet_step (fail)
    refine wpQuiet_nil ?_
    refine wpM_read 8 rfl rfl (by kernel_rfl) (fun _ d _ _ _ h => by cases d <;> exact h) ?_
    go_big_quiet_step (fail)
    refine wpQuiet_nil ?_
    refine wpM_read 9 rfl rfl (by kernel_rfl) (fun _ d _ _ _ h => by cases d <;> exact h) ?_
    go_big_quiet_step (fail)
    refine wpQuiet_nil ?_
    refine wpM_read 10 rfl rfl (by kernel_rfl) (fun _ d _ _ _ h => by cases d <;> exact h) ?_
    go_big_quiet_step (fail)
    refine wpQuiet_nil ?_
    refine wpM_read 11 rfl rfl (by kernel_rfl) (fun _ d _ _ _ h => by cases d <;> exact h) ?_
    go_big_quiet_step (fail)
    refine wpQuiet_nil ?_
    refine wpM_read 12 rfl rfl (by kernel_rfl) (fun _ d _ _ _ h => by cases d <;> exact h) ?_
    go_big_quiet_step (fail)
    refine wpQuiet_nil ?_
    refine wpM_read 13 rfl rfl (by kernel_rfl) (fun _ d _ _ _ h => by cases d <;> exact h) ?_
    go_big_quiet_step (fail)
    refine wpQuiet_nil ?_
    refine wpM_read 14 rfl rfl (by kernel_rfl) (fun _ d _ _ _ h => by cases d <;> exact h) ?_
    go_big_quiet_step (fail)
    refine wpQuiet_nil ?_
    refine wpM_read 15 rfl rfl (by kernel_rfl) (fun _ d _ _ _ h => by cases d <;> exact h) ?_
    go_big_quiet_step (fail)
    refine wpQuiet_nil ?_
    refine wpM_read 16 rfl rfl (by kernel_rfl) (fun _ d _ _ _ h => by cases d <;> exact h) ?_
    go_big_quiet_step (fail)
    refine wpQuiet_nil ?_
    refine wpM_read 17 rfl rfl (by kernel_rfl) (fun _ d _ _ _ h => by cases d <;> exact h) ?_
    go_big_quiet_step (fail)
    refine wpQuiet_nil ?_
    refine wpM_read 18 rfl rfl (by kernel_rfl) (fun _ d _ _ _ h => by cases d <;> exact h) ?_
    go_big_quiet_step (fail)
    refine wpQuiet_nil ?_
    refine wpM_read 19 rfl rfl (by kernel_rfl) (fun _ d _ _ _ h => by cases d <;> exact h) ?_
    go_big_quiet_step (fail)
    refine wpQuiet_nil ?_
    refine wpM_call 20 57 #[.pointer (some ⟨g, 0, none⟩), .string X, .int .i64 (p2 : Nat)] (.int .i64 (y : Nat)) rfl (by kernel_rfl) (fun _ d _ _ _ h => by cases d <;> exact h) rfl (fun x => by go_simp) (fun x hx => HB.out x (S4.step hx).below) (fun K hK => ?_)
    go_simp
    refine hK _ ?_
    clear hK K
    refine wpM_read 21 rfl rfl (by kernel_rfl) (fun _ d _ _ _ h => by cases d <;> exact h) ?_
    go_big_quiet_step (fail)
    refine wpQuiet_nil ?_
    refine wpM_read 22 rfl rfl (by kernel_rfl) (fun _ d _ _ _ h => by cases d <;> exact h) ?_
    go_big_quiet_step (fail)
    refine wpQuiet_nil ?_
    refine wpM_read 23 rfl rfl (by kernel_rfl) (fun _ d _ _ _ h => by cases d <;> exact h) ?_
    go_big_quiet_step (fail)
    refine wpQuiet_nil ?_
    refine wpM_done (by kernel_rfl) (fun w6 b6 => ?_)
    replace S := S.step b6
    clear b6 x0 x1 c3 k1 z0 gl1 gl2 gl3 gl4 hov BW S4 HB j1 j2 j3 j4
    have hcs : (Tx ++ oT).size = Tx.size + oT.size := ByteArray.size_append
    have HCS := Lib.hid hcs
    clear hcs
    go_wp2
    go_loopw [11, 14] (fun vp vj wr => ∃ (j : Nat) (v5 : Value) (M : List Int), j ≤ oT.size ∧ vp = v5 ∧ vj = .int .i64 j ∧ Star w wr [oE (sliceE intE 2) [v5] M, oE plsE [.slice (some ⟨b, o, none⟩) L.length sc] L] ∧ M.length = Tx.size + j) (fun _ vj _ => oT.size - (intOf vj).toNat)
    case atStart => exact ⟨0, _, M, Nat.zero_le _, rfl, rfl, S, hML⟩
    case round =>
      clear S hML
      obtain ⟨j, v6, M, hj, rfl, rfl, S, hML⟩ := hrel
      by_cases hjl : j < oT.size
      case neg =>
        have hjo : j = oT.size := by omega
        go_wp2
        go_roundw
        case rel => exact ⟨k + 1, _, Tx ++ oT, M, by omega, rfl, rfl, by go_num, S, Lib.hid HSN.out.symm, by rw [HCS.out]; omega, by rw [HCS.out, hML, hjo]⟩
        case measure => simp [intOf]; omega
      obtain ⟨b', o', cap', hv, -, -, q3⟩ := S.pls 1 rfl (Nat.lt_of_le_of_lt (Nat.zero_le _) hkl)
      simp only [Value.slice.injEq, Option.some.injEq, Addr.mk.injEq, and_true] at hv
      obtain ⟨⟨rfl, rfl⟩, -, rfl⟩ := hv
      have x1 := (q3 k _ HGE.out).2
      simp only at x1
      have hlm : M.length ≤ 1000000000000 := by omega
      have SB := ((S.alloc (cs := #[.int .i64 (p2 : Nat)]) (ty := 2)).int (x := (p2 : Nat)) ⟨by omega, by omega⟩).sel [2, 0, 3]
      clear q3
      go_wp2_with (at_builtin; refine st1_Int64S SB rfl rfl rfl rfl cell_a1 (one_mem rfl) hlm ?_; intro ja jn jc w9 S9)
      go_roundw
      case rel => exact ⟨j + 1, _, _, by omega, rfl, by go_num, S9, by rw [List.length_append, hML]; rfl⟩
      case measure => simp [intOf]; omega

end Go.Proofs.YtjochoghmpcgdaaDoor
