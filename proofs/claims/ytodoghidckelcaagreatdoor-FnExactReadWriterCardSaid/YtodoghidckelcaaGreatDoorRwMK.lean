/-
  A move read by the program.
-/
import Derived.Test.YtodoghidckelcaaGreatDoorRwNK
namespace Go.Proofs.YtodoghidckelcaaGreatDoor
open Go.RowKit Go.PlainAid

theorem mkB_toList (l : List UInt8) : (mkB l).toList = l := by rw [ByteArray.toList_eq]; rfl

theorem ext_take (l : List UInt8) (k : Nat) (h : k ≤ l.length) : (mkB l).extract 0 k = mkB (l.take k) := by
  rw [← mkB_of ((mkB l).extract 0 k)]
  congr 1
  simp [mkB, ByteArray.data_extract]

theorem ext_drop (l : List UInt8) (k : Nat) : (mkB l).extract k (mkB l).size = mkB (l.drop k) := by
  rw [← mkB_of ((mkB l).extract k (mkB l).size), Lib.extract_to_end]
  rfl

theorem dirI_range (u : List UInt8) : -1 ≤ dirI u ∧ dirI u ≤ 3 := ⟨Lib.index_ge _ _, Lib.index_le [60, 61, 62] _⟩

set_option maxHeartbeats 4000000 in
set_option maxRecDepth 100000 in
theorem readMove_any (u : List UInt8) (m : Int) (w : World) (hu : u.length ≤ 30000) (hM : MaxIsT m w.heap.size w) (h15 : ErrIs (Tryz.lays174_ren.g 15) w.heap.size w) (h16 : ErrIs (Tryz.lays174_ren.g 16) w.heap.size w) :
    Calls Tryz.prog 31 #[.string (mkB u)] w (Gives (.agg #[.int .i64 (readMv u).to, .int .i64 (readMv u).dir]) w) := by
  obtain ⟨T, hT⟩ : ∃ T, T = mkB u := ⟨_, rfl⟩
  have hTs : T.size = u.length := by rw [hT, mkB_size]
  have S := (Star.nil w).alloc (cs := #[.int .i64 0, .int .i64 0]) (ty := 54)
  by_cases c1 : u = yesL
  · have hr : readMv u = ⟨-1, 0⟩ := by unfold readMv; rw [if_pos c1]
    have tY : (T.toList == [121, 101, 115]) = true := by rw [hT, c1, mkB_toList]; rfl
    rw [hr, ← hT]
    clear hr hT c1 hM h15 h16
    go_enter Tryz.func31, Tryz.ntmps31
    go_upto_region 1 with fail
    generalize hW : w.alloc _ = w0 at S ⊢
    clear hW
    obtain ⟨g, hg⟩ : ∃ g, g = w.heap.size := ⟨_, rfl⟩
    rw [← hg] at S ⊢
    clear hg
    have a0 := (S.blk 0 rfl).cell 0 rfl
    have a1 := (S.blk 0 rfl).cell 1 rfl
    have af := (S.blk 0 rfl).free
    go_wp2
    generalize hW : (w0.setCell _ _).setCell _ _ = w1
    have S1 : Star w w1 [oB g [.int .i64 (-1), .int .i64 0] 54] := hW ▸ (S.set 0 _).set 1 _
    have q0 := (S1.blk 0 rfl).cell 0 rfl
    have q1 := (S1.blk 0 rfl).cell 1 rfl
    exact bodyPost_ret (v := .agg #[.int .i64 (-1), .int .i64 0]) (by simp [results, Tryz.results31, go_sem, q0, q1]) rfl ⟨rfl, S1.below⟩
  have tY : (T.toList == [121, 101, 115]) = false := by rw [hT, mkB_toList, beq_eq_false_iff_ne]; exact c1
  by_cases c2 : u = noL
  · have hr : readMv u = ⟨-2, 0⟩ := by unfold readMv; rw [if_neg c1, if_pos c2]
    have tN : (T.toList == [110, 111]) = true := by rw [hT, c2, mkB_toList]; rfl
    rw [hr, ← hT]
    clear hr hT c1 c2 hM h15 h16
    go_enter Tryz.func31, Tryz.ntmps31
    go_upto_region 1 with fail
    generalize hW : w.alloc _ = w0 at S ⊢
    clear hW
    obtain ⟨g, hg⟩ : ∃ g, g = w.heap.size := ⟨_, rfl⟩
    rw [← hg] at S ⊢
    clear hg
    have a0 := (S.blk 0 rfl).cell 0 rfl
    have a1 := (S.blk 0 rfl).cell 1 rfl
    have af := (S.blk 0 rfl).free
    go_wp2
    generalize hW : (w0.setCell _ _).setCell _ _ = w1
    have S1 : Star w w1 [oB g [.int .i64 (-2), .int .i64 0] 54] := hW ▸ (S.set 0 _).set 1 _
    have q0 := (S1.blk 0 rfl).cell 0 rfl
    have q1 := (S1.blk 0 rfl).cell 1 rfl
    exact bodyPost_ret (v := .agg #[.int .i64 (-2), .int .i64 0]) (by simp [results, Tryz.results31, go_sem, q0, q1]) rfl ⟨rfl, S1.below⟩
  have tN : (T.toList == [110, 111]) = false := by rw [hT, mkB_toList, beq_eq_false_iff_ne]; exact c2
  by_cases c3 : u = []
  · have hr : readMv u = ⟨0, 0⟩ := by unfold readMv; rw [if_neg c1, if_neg c2, if_pos c3]
    have tE : (T.toList == []) = true := by rw [hT, c3, mkB_toList]; rfl
    rw [hr, ← hT]
    clear hr hT c1 c2 c3 hM h15 h16
    go_enter Tryz.func31, Tryz.ntmps31
    go_upto_region 1 with fail
    generalize hW : w.alloc _ = w0 at S ⊢
    clear hW
    obtain ⟨g, hg⟩ : ∃ g, g = w.heap.size := ⟨_, rfl⟩
    rw [← hg] at S ⊢
    clear hg
    have a0 := (S.blk 0 rfl).cell 0 rfl
    have a1 := (S.blk 0 rfl).cell 1 rfl
    have af := (S.blk 0 rfl).free
    go_wp2
    generalize hW : (w0.setCell _ _).setCell _ _ = w1
    have S1 : Star w w1 [oB g [.int .i64 0, .int .i64 0] 54] := hW ▸ (S.set 0 _).set 1 _
    have q0 := (S1.blk 0 rfl).cell 0 rfl
    have q1 := (S1.blk 0 rfl).cell 1 rfl
    exact bodyPost_ret (v := .agg #[.int .i64 0, .int .i64 0]) (by simp [results, Tryz.results31, go_sem, q0, q1]) rfl ⟨rfl, S1.below⟩
  have tE : (T.toList == []) = false := by rw [hT, mkB_toList, beq_eq_false_iff_ne]; exact c3
  have hu0 : 1 ≤ u.length := by cases u with | nil => exact absurd rfl c3 | cons a l => simp
  have hr : readMv u = ⟨numI (u.take (u.length - 1)), dirI u - 1⟩ := by unfold readMv; rw [if_neg c1, if_neg c2, if_neg c3]
  have hdr := dirI_range u
  obtain ⟨j, hj⟩ : ∃ j, j + 1 = u.length := ⟨u.length - 1, by omega⟩
  have e1 : T.extract 0 j = mkB (u.take (u.length - 1)) := by rw [hT, ext_take _ _ (by omega)]; congr 2; omega
  have e2 : T.extract j T.size = mkB (u.drop (u.length - 1)) := by
    rw [hT, ext_drop]; congr 2; omega
  have HNU := Lib.hid (fun w' (bl : Below w.heap.size w w') => show Calls Tryz.prog 30 #[.string (T.extract 0 j)] w' (Gives (.int .i64 (numI (u.take (u.length - 1)))) w') from by
    rw [e1]
    exact number_any (mkB (u.take (u.length - 1))) w' (by rw [mkB_size, List.length_take]; omega) (h15.at bl) (h16.at bl))
  have HIX := Lib.hid (fun w' (bl : Below w.heap.size w w') => show Calls Tryz.prog 53 #[.string ⟨#[60, 61, 62]⟩, .string (T.extract j T.size)] w' (Gives (.int .i64 (dirI u)) w') from by
    rw [e2]
    refine (Any.strings_Index { Tryz.lays146 with } ⟨#[60, 61, 62]⟩ (mkB (u.drop (u.length - 1))) m w' (by decide) (hM w' bl)).mono ?_
    rintro e w3 ⟨rfl, rfl⟩
    exact ⟨rfl, Below.refl _ _⟩)
  rw [hr, ← hT]
  obtain ⟨N, hN⟩ : ∃ N, N = numI (u.take (u.length - 1)) := ⟨_, rfl⟩
  obtain ⟨D, hD⟩ : ∃ D, D = dirI u := ⟨_, rfl⟩
  rw [← hN] at HNU ⊢
  rw [← hD] at HIX hdr ⊢
  have hTj : T.size = j + 1 := by omega
  have tj : IntKind.i64.wrap ((T.size : Int) - 1) = (j : Int) := by rw [IntWalk.i64_in _ ⟨by omega, by omega⟩]; omega
  have tD : IntKind.i64.wrap (D - 1) = D - 1 := IntWalk.i64_in _ ⟨by omega, by omega⟩
  have HTj := Lib.hid hTj
  have i1 : (0 : Int) ≤ (j : Int) := by omega
  have i2 : (j : Int) ≤ (T.size : Int) := by omega
  clear hr hT c1 c2 c3 hM h15 h16 hj e1 e2 hN hD hu0 hTs hTj
  go_enter Tryz.func31, Tryz.ntmps31
  go_upto_region 1 with fail
  generalize hW : w.alloc _ = w0 at S ⊢
  clear hW
  obtain ⟨g, hg⟩ : ∃ g, g = w.heap.size := ⟨_, rfl⟩
  rw [← hg] at S ⊢
  clear hg
  go_upto_region 9 with fail
  refine wp_region_m 11 (by kernel_rfl) rfl ?_
  intro w1 b1
  replace S := S.step b1
  have hov := cell_over w1
  have BL := S.below
  clear b1
  refine wpM_read 0 rfl rfl (by kernel_rfl) (fun _ d _ _ _ h => by cases d <;> exact h) ?_
  go_big_quiet_step (fail)
  refine wpQuiet_nil ?_
  refine wpM_read 1 rfl rfl (by kernel_rfl) (fun _ d _ _ _ h => by cases d <;> exact h) ?_
  go_big_quiet_step (fail)
  refine wpQuiet_nil ?_
  refine wpM_read 2 rfl rfl (by kernel_rfl) (fun _ d _ _ _ h => by cases d <;> exact h) ?_
  go_big_quiet_step (fail)
  refine wpQuiet_nil ?_
  refine wpM_call 3 30 #[.string (T.extract 0 j)] (.int .i64 N) rfl (by kernel_rfl) (fun _ d _ _ _ h => by cases d <;> exact h) rfl (fun x => by go_simp) (fun x bx => HNU.out x (BL.trans (bx.mono BL.size))) (fun K hK => ?_)
  go_simp
  refine hK _ ?_
  clear hK K
  refine wpM_read 4 rfl rfl (by kernel_rfl) (fun _ d _ _ _ h => by cases d <;> exact h) ?_
  go_big_quiet_step (fail)
  refine wpQuiet_nil ?_
  refine wpM_read 5 rfl rfl (by kernel_rfl) (fun _ d _ _ _ h => by cases d <;> exact h) ?_
  go_big_quiet_step (fail)
  refine wpQuiet_nil ?_
  refine wpM_read 6 rfl rfl (by kernel_rfl) (fun _ d _ _ _ h => by cases d <;> exact h) ?_
  go_big_quiet_step (fail)
  refine wpQuiet_nil ?_
  refine wpM_call 7 53 #[.string ⟨#[60, 61, 62]⟩, .string (T.extract j T.size)] (.int .i64 D) rfl (by kernel_rfl) (fun _ d _ _ _ h => by cases d <;> exact h) rfl (fun x => by go_simp) (fun x bx => HIX.out x (BL.trans (bx.mono BL.size))) (fun K hK => ?_)
  go_simp
  refine hK _ ?_
  clear hK K
  refine wpM_read 8 rfl rfl (by kernel_rfl) (fun _ d _ _ _ h => by cases d <;> exact h) ?_
  go_big_quiet_step (fail)
  refine wpQuiet_nil ?_
  refine wpM_read 9 rfl rfl (by kernel_rfl) (fun _ d _ _ _ h => by cases d <;> exact h) ?_
  go_big_quiet_step (fail)
  refine wpQuiet_nil ?_
  clear hov BL HNU HIX
  refine wpM_ready [10] (by kernel_rfl) (by decide) (AllM.cons rfl (fun w5 b5 K hK => ?_) AllM.nil)
  replace S := S.step b5
  have a0 := (S.blk 0 rfl).cell 0 rfl
  have a1 := (S.blk 0 rfl).cell 1 rfl
  have af := (S.blk 0 rfl).free
  clear b5
  go_simp
  refine hK _ _ (.inl (closes_of (by kernel_rfl))) ?_
  clear hK K
  refine wpM_done (by kernel_rfl) (fun w6 b6 => ?_)
  generalize hW3 : (w5.setCell _ _).setCell _ _ = w7 at b6
  have S7 : Star w w7 [oB g [.int .i64 N, .int .i64 (D - 1)] 54] := by rw [← hW3]; exact (S.set 0 _).set 1 _
  replace S := S7.step b6
  clear b6 hW3 a0 a1 af S7
  have q0 := (S.blk 0 rfl).cell 0 rfl
  have q1 := (S.blk 0 rfl).cell 1 rfl
  go_wp2
  exact bodyPost_ret (v := .agg #[.int .i64 N, .int .i64 (D - 1)]) (by simp [results, Tryz.results31, go_sem, q0, q1]) rfl ⟨rfl, S.below⟩

end Go.Proofs.YtodoghidckelcaaGreatDoor
