/-
  The reference's copy of a turner (written by a program of this claim's own, gen_join.py).
-/
import Derived.Test.YtcifdkliiljmkaaGreatDoorJoinAidK
import Derived.Test.YtcifdkliiljmkaaGreatDoorStarKK
import Derived.Test.YtcifdkliiljmkaaGreatDoorCalmPK
import Derived.Test.YtcifdkliiljmkaaGreatDoorStepZK
import Derived.Test.YtcifdkliiljmkaaGreatDoorPackB
namespace Go.Proofs.YtcifdkliiljmkaaGreatDoor
open Go.RowKit

theorem src_moves {w : World} {B : Nat} {v : Value} {l : List Move} (h : movesE.rd w B [v] l) : ∃ css fys, OwAll moveE w l css fys ∧ fys.flatten = [] ∧ SrcS w moveE.size v l.length css.flatten := by
  refine src_of_rd (fun x => [.int .i64 x.to, .int .i64 x.dir]) ?_ (fun x u hu => by
    simp at hu
    rcases hu with rfl | rfl <;> rfl) h
  intro x cs h
  obtain ⟨rfl, h1, h2⟩ := rd_move2 h
  exact ⟨rfl, ow_move h1 h2 _⟩

set_option maxHeartbeats 4000000 in
theorem l02Copy_any (r x : Turner) (B g : Nat) (w : World) (hB0 : B ≤ w.heap.size) {v2 : Value} (hA : Hd w g [.int .i64 r.letters, .int .i64 r.start, v2]) (h2 : movessE.rd w B [v2] r.moves) (hv : validTurn r = true) (hx : x = r) :
    Calls Tryz.prog 50 #[.pointer (some ⟨g, 0, none⟩)] w (MakesS turnE id x w) := by
  have HX := Lib.hid hx
  have K := turnOk_of hv
  have k0 : -9223372036854775808 ≤ r.letters ∧ r.letters ≤ 9223372036854775807 := by have := K.l1; have := K.l3; omega
  have k1 : -9223372036854775808 ≤ r.start ∧ r.start ≤ 9223372036854775807 := by have := K.s0; have := K.s1; have := K.n12; omega
  obtain ⟨ta, tp, tc, rfl, q1, q2, q4⟩ := rd_s1p rfl h2 (by have := K.n1; omega)
  obtain ⟨m, hm⟩ : ∃ m, m = r.moves.length := ⟨_, rfl⟩
  have hm12 : m ≤ 12 := by rw [hm]; exact K.n12
  rw [← hm] at q1 q4 hA
  have HA := Lib.hid hA
  have HK := Lib.hid K; have HM := Lib.hid hm; have Q4 := Lib.hid q4
  clear K h2 hv hx hm q4 hA
  have S := (Star.nil w).alloc (cs := #[.int .i64 0, .int .i64 0, .slice none 0 0]) (ty := 36)
  go_enter Tryz.func50, Tryz.ntmps50
  go_wp2_with fail
  generalize hW : w.alloc _ = w0 at S ⊢
  clear hW
  refine wp_region_m 11 (by kernel_rfl) rfl ?_
  intro w4 b4
  replace S := S.step b4
  have PA := HA.out.of S.below HA.out.lt
  have f0 := PA.cell 0 rfl
  have f1 := PA.cell 1 rfl
  have gl0 := PA.lt
  have hov := cell_over w4
  refine wpM_read 0 rfl rfl (by kernel_rfl) (fun _ d _ _ _ h => by cases d <;> exact h) ?_
  go_big_quiet_step (fail)
  refine wpQuiet_nil ?_
  refine wpM_read 1 rfl rfl (by kernel_rfl) (fun _ d _ _ _ h => by cases d <;> exact h) ?_
  go_big_quiet_step (fail)
  refine wpQuiet_nil ?_
  refine wpM_read 2 rfl rfl (by kernel_rfl) (fun _ d _ _ _ h => by cases d <;> exact h) ?_
  go_big_quiet_step (fail)
  refine wpQuiet_nil ?_
  refine wpM_read 3 rfl rfl (by kernel_rfl) (fun _ d _ _ _ h => by cases d <;> exact h) ?_
  go_big_quiet_step (fail)
  refine wpQuiet_nil ?_
  refine wpM_read 4 rfl rfl (by kernel_rfl) (fun _ d _ _ _ h => by cases d <;> exact h) ?_
  go_big_quiet_step (fail)
  refine wpQuiet_nil ?_
  refine wpM_read 5 rfl rfl (by kernel_rfl) (fun _ d _ _ _ h => by cases d <;> exact h) ?_
  go_big_quiet_step (fail)
  refine wpQuiet_nil ?_
  refine wpM_read 6 rfl rfl (by kernel_rfl) (fun _ d _ _ _ h => by cases d <;> exact h) ?_
  go_big_quiet_step (fail)
  refine wpQuiet_nil ?_
  refine wpM_read 7 rfl rfl (by kernel_rfl) (fun _ d _ _ _ h => by cases d <;> exact h) ?_
  go_big_quiet_step (fail)
  refine wpQuiet_nil ?_
  refine wpM_read 8 rfl rfl (by kernel_rfl) (fun _ d _ _ _ h => by cases d <;> exact h) ?_
  go_big_quiet_step (fail)
  refine wpQuiet_nil ?_
  refine wpM_ready [9] (by kernel_rfl) (by decide) (AllM.cons rfl (fun w5 b5 K hK => ?_) AllM.nil)
  go_simp
  have b5a : le w5 (w5.alloc (.cells #[.int .i64 0, .int .i64 0, .slice none 0 0] 36)) := (Below.refl _ _).alloc (Nat.le_refl _) _
  refine hK _ _ (.inr b5a) ?_
  clear hK K b5a
  replace S := (S.step b5).alloc (cs := #[.int .i64 0, .int .i64 0, .slice none 0 0]) (ty := 36)
  generalize hW2 : w5.alloc _ = w6 at S ⊢
  clear hW2 b4 b5 hov gl0 f0 f1 PA
  obtain ⟨g3, hg3⟩ : ∃ g, g = w5.heap.size := ⟨_, rfl⟩
  rw [← hg3] at S ⊢
  clear hg3
  refine wpM_ready [10] (by kernel_rfl) (by decide) (AllM.cons rfl (fun w7 b7 K hK => ?_) AllM.nil)
  replace S := S.step b7
  clear b7
  have D := S.blk 0 rfl
  have a0 := D.cell 0 rfl
  have a1 := D.cell 1 rfl
  have a2 := D.cell 2 rfl
  have af := D.free
  clear D
  go_simp
  refine hK _ _ (.inl (closes_of (by kernel_rfl))) ?_
  clear hK K
  refine wpM_done (by kernel_rfl) (fun w9 b9 => ?_)
  generalize hW3 : ((w7.setCell _ _).setCell _ _).setCell _ _ = w8 at b9
  replace S := (S.set3 rfl hW3).step b9
  clear b9 hW3 a0 a1 a2 af
  replace S := (S.nils movesE 91).sel [1, 2, 0]
  go_wp2
  go_loopw [4] (fun q wr => ∃ (k : Nat) (vm : Value), k ≤ m ∧ q = .int .i64 k ∧ Star w wr [oB g3 [.int .i64 r.letters, .int .i64 r.start, vm] 36, oB w.heap.size [.int .i64 0, .int .i64 0, .slice none 0 0] 36, oE movessE [vm] (r.moves.take k)]) (fun q _ => m - (intOf q).toNat)
  case atStart => exact ⟨0, _, by omega, rfl, S⟩
  case round =>
    clear S
    obtain ⟨k, vm, hk, rfl, S⟩ := hrel
    obtain ⟨ua, un, uc, rfl⟩ := S.slc 2 rfl
    have PA := HA.out.of S.below HA.out.lt
    have c2 := PA.cell 2 rfl
    clear PA
    by_cases hlt : k < m
    case neg =>
      obtain rfl : m = k := by omega
      have x0 := (S.blk 0 rfl).cell 0 rfl
      have x1 := (S.blk 0 rfl).cell 1 rfl
      have x2 := (S.blk 0 rfl).cell 2 rfl
      have R0 := S.blk 1 rfl
      have f0 := R0.cell 0 rfl
      have f1 := R0.cell 1 rfl
      have f2 := R0.cell 2 rfl
      have ff := R0.free
      go_wp2
      generalize hW : ((wr.setCell _ _).setCell _ _).setCell _ _ = w5
      have hfull : r.moves.take m = r.moves := by rw [HM.out, List.take_length]
      rw [hfull] at S
      have S5 := (S.sel [1, 2]).set3 rfl hW
      have A3 := S5.blk 0 rfl
      have q0 := A3.cell 0 rfl
      have q1 := A3.cell 1 rfl
      have q2 := A3.cell 2 rfl
      have S6 := ((S5.int k1).int k0).sel [0, 1, 3]
      obtain rfl := HX.out
      exact bodyPost_ret (v := .agg #[.int .i64 x.letters, .int .i64 x.start, .slice ua un uc]) (by simp [results, Tryz.results50, go_sem, q0, q1, q2]) rfl (turn_made S6)
    obtain ⟨vk, hrc, hrd⟩ := Q4.out k hlt
    have hk2 : k < r.moves.length := by rw [← HM.out]; exact hlt
    have hst : r.moves.take (k + 1) = r.moves.take k ++ [r.moves[k]?.getD default] := by
      rw [List.take_succ_eq_append_getElem hk2, List.getElem?_eq_getElem hk2]; rfl
    have hmem := mem_getD (l := r.moves) (k := k) hk2
    have hr5 := HK.out.len hmem
    have hlm : (r.moves.take k).length ≤ 1000000000000 := by rw [List.length_take]; omega
    obtain ⟨row, hrow⟩ : ∃ y, y = r.moves[k]?.getD default := ⟨_, rfl⟩
    rw [← hrow] at hrd hst hr5
    obtain ⟨ma, mn, mc, rfl⟩ := rd_slice hrd
    have HST := Lib.hid hst; have HRD := Lib.hid hrd; have HRC := Lib.hid hrc
    have i1 : (0 : Int) ≤ (k : Int) := by omega
    have i2 : (k : Int) < (m : Int) := by omega
    clear hst hrd hrc hrow hmem hk2
    go_wp2
    clear c2
    refine wp_region_p [] 15 (by kernel_rfl) rfl ?_
    intro w5 b5
    replace S := S.step b5
    clear b5
    have BW := S.below
    have PA := HA.out.of BW HA.out.lt
    have f2 := PA.cell 2 rfl
    have gl0 := PA.lt
    have cr := (BW.cell (World.block_lt_of_cell? w _ HRC.out)).trans HRC.out
    have gl1 : ta < w5.heap.size := World.block_lt_of_cell? w5 _ cr
    have x2 := (S.blk 0 rfl).cell 2 rfl
    have gl2 := (S.blk 0 rfl).lt
    have hov := cell_over w5
    refine wpP_read 0 rfl rfl (by kernel_rfl) rfl (fun _ d _ _ _ h => by cases d <;> exact h) ?_
    go_big_quiet_step (fail)
    refine wpQuiet_nil ?_
    refine wpP_read 1 rfl rfl (by kernel_rfl) rfl (fun _ d _ _ _ h => by cases d <;> exact h) ?_
    go_big_quiet_step (fail)
    refine wpQuiet_nil ?_
    refine wpP_read 3 rfl rfl (by kernel_rfl) rfl (fun _ d _ _ _ h => by cases d <;> exact h) ?_
    go_big_quiet_step (fail)
    refine wpQuiet_nil ?_
    refine wpP_read 4 rfl rfl (by kernel_rfl) rfl (fun _ d _ _ _ h => by cases d <;> exact h) ?_
    go_big_quiet_step (fail)
    refine wpQuiet_nil ?_
    refine wpP_read 5 rfl rfl (by kernel_rfl) rfl (fun _ d _ _ _ h => by cases d <;> exact h) ?_
    go_big_quiet_step (fail)
    refine wpQuiet_nil ?_
    refine wpP_read 6 rfl rfl (by kernel_rfl) rfl (fun _ d _ _ _ h => by cases d <;> exact h) ?_
    go_big_quiet_step (fail)
    refine wpQuiet_nil ?_
    refine wpP_read 7 rfl rfl (by kernel_rfl) rfl (fun _ d _ _ _ h => by cases d <;> exact h) ?_
    go_big_quiet_step (fail)
    refine wpQuiet_nil ?_
    refine wpP_read 8 rfl rfl (by kernel_rfl) rfl (fun _ d _ _ _ h => by cases d <;> exact h) ?_
    go_big_quiet_step (fail)
    refine wpQuiet_nil ?_
    refine wpP_read 9 rfl rfl (by kernel_rfl) rfl (fun _ d _ _ _ h => by cases d <;> exact h) ?_
    go_big_quiet_step (fail)
    refine wpQuiet_nil ?_
    have hrdw : movesE.rd w5 B [.slice ma mn mc] row := movesE.rd_of (BW.mono hB0) HRD.out
    have HRW := Lib.hid hrdw
    clear f2 gl0 cr gl1 x2 gl2 hov PA BW hrdw
    refine wpP_ready [2] (by kernel_rfl) (by decide) (AllP.cons rfl (fun w6 b6 K hK => ?_) AllP.nil)
    go_simp
    have hB5 : B ≤ w5.heap.size := Nat.le_trans hB0 S.below.size
    have SL := (Star.nil w5).step b6
    refine hK _ _ (.inr (leN.of_le b6.size ((Below.refl w6.heap.size w6).alloc (Nat.le_refl _) _))) ?_
    clear hK K
    replace SL := ((SL.alloc (cs := #[]) (ty := 93)).lit0 (α := Move) (E := moveE))
    generalize hW5 : w6.alloc _ = w7 at SL ⊢
    clear hW5 b6
    obtain ⟨ge, hge⟩ : ∃ g, g = w6.heap.size := ⟨_, rfl⟩
    rw [← hge] at SL ⊢
    clear hge
    refine wpP_ready [10] (by kernel_rfl) (by decide) (AllP.cons rfl (fun w8 b8 K hK => ?_) AllP.nil)
    replace SL := SL.step b8
    clear b8
    obtain ⟨css, fys, e1, e2, e3⟩ := src_moves (movesE.rd_of (SL.below.mono hB5) HRW.out)
    have L8 := leN.of_below (Nat.le_refl _) (Nat.le_refl _) SL.below
    refine sstS_MoveS (ys := row) SL rfl rfl rfl e1 e2 e3 (by simp; omega) ?_
    intro sa sn sc w9 S9
    have L9 := leN.of_below (Nat.le_refl _) (Nat.le_refl _) S9.below
    refine hK _ _ (.inr (L8.symm.trans L9)) ?_
    clear hK K L8 SL e1 e2 e3
    rw [List.nil_append] at S9
    refine wpP_ready [11] (by kernel_rfl) (by decide) (AllP.cons rfl (fun w10 b10 K hK => ?_) AllP.nil)
    replace S9 := S9.step b10
    go_simp
    refine hK _ _ (.inr (leN.of_le (Nat.le_trans L9.hi b10.size) ((Below.refl w10.heap.size w10).alloc (Nat.le_refl _) _))) ?_
    clear hK K L9 b10
    have S11 := S9.alloc (cs := #[.slice sa sn sc]) (ty := 91)
    clear S9
    generalize hW6 : w10.alloc _ = w11 at S11 ⊢
    clear hW6
    obtain ⟨gq, hgq⟩ : ∃ g, g = w10.heap.size := ⟨_, rfl⟩
    rw [← hgq] at S11 ⊢
    clear hgq
    refine wpP_ready [12] (by kernel_rfl) (by decide) (AllP.cons rfl (fun w12 b12 K hK => ?_) AllP.nil)
    replace S11 := S11.step b12
    clear b12
    have hq := (S11.blk 0 rfl).cell 0 rfl
    have N12 := S11.below.size
    obtain ⟨f, o, nd, lo⟩ := (S11.sel [1]).out
    have SM := (S.made o nd lo S11.below).sel [3, 0, 1, 2]
    clear o nd lo S11 S HRW
    refine sst1z_MoveSS SM rfl rfl rfl rfl (fun j u hu => by
      obtain rfl : j = 0 := by have := (List.getElem?_eq_some_iff.1 hu).1; simp at this; exact this
      obtain rfl : _ = u := by simpa using hu
      exact hq) (one_mem rfl) hlm ?_
    intro ja jn jc w13 z13 S13
    try go_simp
    refine hK _ _ (.inl ⟨alone_of (by kernel_rfl), Nat.le_trans N12 z13⟩) ?_
    have N13 := Nat.le_trans N12 z13
    clear hK K hq N12 z13 SM
    refine wpP_pure 13 rfl rfl (by kernel_rfl) N13 (fun _ d _ _ _ h => by cases d <;> exact h) ?_
    go_big_quiet_step (fail)
    refine wpQuiet_nil ?_
    refine wpP_ready [14] (by kernel_rfl) (by decide) (AllP.cons rfl (fun w14 b14 K hK => ?_) AllP.nil)
    replace S13 := (S13.step b14).sel [1, 0, 2]
    have N14 := Nat.le_trans N13 b14.size
    clear b14 N13
    have x2 := (S13.blk 0 rfl).cell 2 rfl
    have xf := (S13.blk 0 rfl).free
    go_simp
    refine hK _ _ (.inl ⟨alone_of (by kernel_rfl), by simpa using N14⟩) ?_
    clear hK K N14 x2 xf
    refine wpP_done (by kernel_rfl) (fun w15 b15 => ?_)
    have S15 := (S13.set 2 (.slice ja jn jc)).step b15
    clear b15 S13
    go_wp2
    go_roundw
    case rel => exact ⟨k + 1, _, by omega, by go_num, by rw [HST.out]; exact S15.sel [0, 2, 1]⟩
    case measure => simp [intOf]; omega

end Go.Proofs.YtcifdkliiljmkaaGreatDoor
