/-
  Texts of the reference: a move (written by a program of this claim's own, gen_text.py).
-/
import Derived.Test.YtnkhgfdlehhjmaaDoorTextPK
import Derived.Test.YtnkhgfdlehhjmaaDoorCalmK
import Derived.Test.YtnkhgfdlehhjmaaDoorToldK
namespace Go.Proofs.YtnkhgfdlehhjmaaDoor
open Go.RowKit

set_option maxHeartbeats 2000000 in
theorem l02Word_any (m : Move) (w : World) (hm : mvOk m) : Calls Tryd.prog 42 #[.agg #[.int .i64 m.to, .int .i64 m.dir]] w (Gives (.string ⟨(moveL m).toArray⟩) w) := by
  obtain ⟨t, d⟩ := m
  dsimp only
  by_cases h1 : t = -1
  · subst h1
    have hr : moveL ⟨-1, d⟩ = [121, 101, 115] := rfl
    rw [hr]
    clear hr hm
    go_enter Tryd.func42, Tryd.ntmps42
    go_wp2
    go_ret
    exact ⟨rfl, (Below.refl _ _).alloc (Nat.le_refl _) _⟩
  by_cases h2 : t = -2
  · subst h2
    have hr : moveL ⟨-2, d⟩ = [110, 111] := rfl
    rw [hr]
    clear hr hm h1
    go_enter Tryd.func42, Tryd.ntmps42
    go_wp2
    go_ret
    exact ⟨rfl, (Below.refl _ _).alloc (Nat.le_refl _) _⟩
  rcases hm with h | h | ⟨⟨h3, h4⟩, h5, h6⟩
  · exact absurd h h1
  · exact absurd h h2
  dsimp only at h3 h4 h5 h6
  obtain ⟨n, rfl⟩ : ∃ n : Nat, t = n := ⟨t.toNat, by omega⟩
  have e1 : ((n : Int) == -1) = false := by simp
  have e2 : ((n : Int) == -2) = false := by simp
  have hn : n ≤ 99 := by omega
  clear h1 h2 h3 h4
  have hd : d = -1 ∨ d = 0 ∨ d = 1 := by omega
  clear h5 h6
  rcases hd with rfl | rfl | rfl
  · have hr : moveL ⟨(n : Int), -1⟩ = Lib.decDigits n ++ [60] := by
      unfold moveL
      rw [if_neg (show ¬ ((n : Int) = -1) by omega), if_neg (show ¬ ((n : Int) = -2) by omega)]
      rfl
    have HR := Lib.hid hr
    have z : (decB n).size ≤ 2 := decB_len 1 n (by omega)
    have hdc := fun x => Lib.hid (specDecimal_any n (by omega) x)
    obtain ⟨dn, hdn⟩ : ∃ x, x = decB n := ⟨_, rfl⟩
    rw [← hdn] at z hdc
    have HDN := Lib.hid hdn
    have s1 : ¬ (9223372036854775807 < dn.size + 1) := by omega
    clear hr hdn
    go_enter Tryd.func42, Tryd.ntmps42
    go_upto_region 6 with fail
    generalize hW : w.alloc _ = w0
    obtain ⟨A0, B0⟩ := blk1 hW
    clear hW
    refine wp_region_m 11 (by kernel_rfl) rfl ?_
    intro w3 b3
    have A3 := A0.of b3 A0.lt
    have B3 := B0.trans (b3.mono B0.size)
    have c0 := A3.cell 0 rfl
    have c1 := A3.cell 1 rfl
    have g0 := A3.lt
    have hov := cell_over w3
    clear A0 B0 b3 A3
    refine wpM_read 0 rfl rfl (by kernel_rfl) (fun _ d _ _ _ h => by cases d <;> exact h) ?_
    go_big_quiet_step (fail)
    refine wpQuiet_nil ?_
    refine wpM_read 1 rfl rfl (by kernel_rfl) (fun _ d _ _ _ h => by cases d <;> exact h) ?_
    go_big_quiet_step (fail)
    refine wpQuiet_nil ?_
    refine wpM_read 4 rfl rfl (by kernel_rfl) (fun _ d _ _ _ h => by cases d <;> exact h) ?_
    go_big_quiet_step (fail)
    refine wpQuiet_nil ?_
    refine wpM_read 5 rfl rfl (by kernel_rfl) (fun _ d _ _ _ h => by cases d <;> exact h) ?_
    go_big_quiet_step (fail)
    refine wpQuiet_nil ?_
    refine wpM_read 6 rfl rfl (by kernel_rfl) (fun _ d _ _ _ h => by cases d <;> exact h) ?_
    go_big_quiet_step (fail)
    refine wpQuiet_nil ?_
    clear c0 c1 hov
    refine wpM_call 2 41 #[.int .i64 (n : Int)] (.string dn) rfl (by kernel_rfl) (fun _ d _ _ _ h => by cases d <;> exact h) rfl (fun x => by go_simp) (fun x bx => (hdc x).out) (fun K hK => ?_)
    go_simp
    refine hK _ ?_
    clear hK K
    refine wpM_ready [3] (by kernel_rfl) (by decide) (AllM.cons rfl (fun w4 b4 K hK => ?_) AllM.nil)
    go_simp
    have b45 : le w4 (w4.alloc (.cells #[.string ⟨#[60]⟩, .string ⟨#[61]⟩, .string ⟨#[62]⟩] 9)) := (Below.refl _ _).alloc (Nat.le_refl _) _
    have R5 := Blk.new w4 #[.string ⟨#[60]⟩, .string ⟨#[61]⟩, .string ⟨#[62]⟩] 9
    refine hK _ _ (.inr b45) ?_
    clear hK K
    have B4 := B3.trans (b4.mono B3.size)
    have B5 := B4.trans (b45.mono B4.size)
    obtain ⟨q, hq⟩ : ∃ x, x = w4.heap.size := ⟨_, rfl⟩
    rw [← hq] at R5 ⊢
    generalize hW : w4.alloc _ = w5 at R5 b45 B5 ⊢
    have c5 := R5.cell 0 rfl
    have g5 := R5.lt
    have hov := cell_over w5
    clear hW hq b45 b4 B4 B3 R5
    refine wpM_read 7 rfl rfl (by kernel_rfl) (fun _ d _ _ _ h => by cases d <;> exact h) ?_
    go_big_quiet_step (fail)
    refine wpQuiet_nil ?_
    refine wpM_read 8 rfl rfl (by kernel_rfl) (fun _ d _ _ _ h => by cases d <;> exact h) ?_
    go_big_quiet_step (fail)
    refine wpQuiet_nil ?_
    refine wpM_read 9 rfl rfl (by kernel_rfl) (fun _ d _ _ _ h => by cases d <;> exact h) ?_
    go_big_quiet_step (fail)
    refine wpQuiet_nil ?_
    refine wpM_read 10 rfl rfl (by kernel_rfl) (fun _ d _ _ _ h => by cases d <;> exact h) ?_
    go_big_quiet_step (fail)
    refine wpQuiet_nil ?_
    refine wpM_done (by kernel_rfl) (fun w8 b8 => ?_)
    clear c5 g5 hov
    go_wp2
    go_ret
    exact ⟨by rw [HR.out, HDN.out]; rfl, B5.trans (b8.mono B5.size)⟩
  · have hr : moveL ⟨(n : Int), 0⟩ = Lib.decDigits n ++ [61] := by
      unfold moveL
      rw [if_neg (show ¬ ((n : Int) = -1) by omega), if_neg (show ¬ ((n : Int) = -2) by omega)]
      rfl
    have HR := Lib.hid hr
    have z : (decB n).size ≤ 2 := decB_len 1 n (by omega)
    have hdc := fun x => Lib.hid (specDecimal_any n (by omega) x)
    obtain ⟨dn, hdn⟩ : ∃ x, x = decB n := ⟨_, rfl⟩
    rw [← hdn] at z hdc
    have HDN := Lib.hid hdn
    have s1 : ¬ (9223372036854775807 < dn.size + 1) := by omega
    clear hr hdn
    go_enter Tryd.func42, Tryd.ntmps42
    go_upto_region 6 with fail
    generalize hW : w.alloc _ = w0
    obtain ⟨A0, B0⟩ := blk1 hW
    clear hW
    refine wp_region_m 11 (by kernel_rfl) rfl ?_
    intro w3 b3
    have A3 := A0.of b3 A0.lt
    have B3 := B0.trans (b3.mono B0.size)
    have c0 := A3.cell 0 rfl
    have c1 := A3.cell 1 rfl
    have g0 := A3.lt
    have hov := cell_over w3
    clear A0 B0 b3 A3
    refine wpM_read 0 rfl rfl (by kernel_rfl) (fun _ d _ _ _ h => by cases d <;> exact h) ?_
    go_big_quiet_step (fail)
    refine wpQuiet_nil ?_
    refine wpM_read 1 rfl rfl (by kernel_rfl) (fun _ d _ _ _ h => by cases d <;> exact h) ?_
    go_big_quiet_step (fail)
    refine wpQuiet_nil ?_
    refine wpM_read 4 rfl rfl (by kernel_rfl) (fun _ d _ _ _ h => by cases d <;> exact h) ?_
    go_big_quiet_step (fail)
    refine wpQuiet_nil ?_
    refine wpM_read 5 rfl rfl (by kernel_rfl) (fun _ d _ _ _ h => by cases d <;> exact h) ?_
    go_big_quiet_step (fail)
    refine wpQuiet_nil ?_
    refine wpM_read 6 rfl rfl (by kernel_rfl) (fun _ d _ _ _ h => by cases d <;> exact h) ?_
    go_big_quiet_step (fail)
    refine wpQuiet_nil ?_
    clear c0 c1 hov
    refine wpM_call 2 41 #[.int .i64 (n : Int)] (.string dn) rfl (by kernel_rfl) (fun _ d _ _ _ h => by cases d <;> exact h) rfl (fun x => by go_simp) (fun x bx => (hdc x).out) (fun K hK => ?_)
    go_simp
    refine hK _ ?_
    clear hK K
    refine wpM_ready [3] (by kernel_rfl) (by decide) (AllM.cons rfl (fun w4 b4 K hK => ?_) AllM.nil)
    go_simp
    have b45 : le w4 (w4.alloc (.cells #[.string ⟨#[60]⟩, .string ⟨#[61]⟩, .string ⟨#[62]⟩] 9)) := (Below.refl _ _).alloc (Nat.le_refl _) _
    have R5 := Blk.new w4 #[.string ⟨#[60]⟩, .string ⟨#[61]⟩, .string ⟨#[62]⟩] 9
    refine hK _ _ (.inr b45) ?_
    clear hK K
    have B4 := B3.trans (b4.mono B3.size)
    have B5 := B4.trans (b45.mono B4.size)
    obtain ⟨q, hq⟩ : ∃ x, x = w4.heap.size := ⟨_, rfl⟩
    rw [← hq] at R5 ⊢
    generalize hW : w4.alloc _ = w5 at R5 b45 B5 ⊢
    have c5 := R5.cell 1 rfl
    have g5 := R5.lt
    have hov := cell_over w5
    clear hW hq b45 b4 B4 B3 R5
    refine wpM_read 7 rfl rfl (by kernel_rfl) (fun _ d _ _ _ h => by cases d <;> exact h) ?_
    go_big_quiet_step (fail)
    refine wpQuiet_nil ?_
    refine wpM_read 8 rfl rfl (by kernel_rfl) (fun _ d _ _ _ h => by cases d <;> exact h) ?_
    go_big_quiet_step (fail)
    refine wpQuiet_nil ?_
    refine wpM_read 9 rfl rfl (by kernel_rfl) (fun _ d _ _ _ h => by cases d <;> exact h) ?_
    go_big_quiet_step (fail)
    refine wpQuiet_nil ?_
    refine wpM_read 10 rfl rfl (by kernel_rfl) (fun _ d _ _ _ h => by cases d <;> exact h) ?_
    go_big_quiet_step (fail)
    refine wpQuiet_nil ?_
    refine wpM_done (by kernel_rfl) (fun w8 b8 => ?_)
    clear c5 g5 hov
    go_wp2
    go_ret
    exact ⟨by rw [HR.out, HDN.out]; rfl, B5.trans (b8.mono B5.size)⟩
  · have hr : moveL ⟨(n : Int), 1⟩ = Lib.decDigits n ++ [62] := by
      unfold moveL
      rw [if_neg (show ¬ ((n : Int) = -1) by omega), if_neg (show ¬ ((n : Int) = -2) by omega)]
      rfl
    have HR := Lib.hid hr
    have z : (decB n).size ≤ 2 := decB_len 1 n (by omega)
    have hdc := fun x => Lib.hid (specDecimal_any n (by omega) x)
    obtain ⟨dn, hdn⟩ : ∃ x, x = decB n := ⟨_, rfl⟩
    rw [← hdn] at z hdc
    have HDN := Lib.hid hdn
    have s1 : ¬ (9223372036854775807 < dn.size + 1) := by omega
    clear hr hdn
    go_enter Tryd.func42, Tryd.ntmps42
    go_upto_region 6 with fail
    generalize hW : w.alloc _ = w0
    obtain ⟨A0, B0⟩ := blk1 hW
    clear hW
    refine wp_region_m 11 (by kernel_rfl) rfl ?_
    intro w3 b3
    have A3 := A0.of b3 A0.lt
    have B3 := B0.trans (b3.mono B0.size)
    have c0 := A3.cell 0 rfl
    have c1 := A3.cell 1 rfl
    have g0 := A3.lt
    have hov := cell_over w3
    clear A0 B0 b3 A3
    refine wpM_read 0 rfl rfl (by kernel_rfl) (fun _ d _ _ _ h => by cases d <;> exact h) ?_
    go_big_quiet_step (fail)
    refine wpQuiet_nil ?_
    refine wpM_read 1 rfl rfl (by kernel_rfl) (fun _ d _ _ _ h => by cases d <;> exact h) ?_
    go_big_quiet_step (fail)
    refine wpQuiet_nil ?_
    refine wpM_read 4 rfl rfl (by kernel_rfl) (fun _ d _ _ _ h => by cases d <;> exact h) ?_
    go_big_quiet_step (fail)
    refine wpQuiet_nil ?_
    refine wpM_read 5 rfl rfl (by kernel_rfl) (fun _ d _ _ _ h => by cases d <;> exact h) ?_
    go_big_quiet_step (fail)
    refine wpQuiet_nil ?_
    refine wpM_read 6 rfl rfl (by kernel_rfl) (fun _ d _ _ _ h => by cases d <;> exact h) ?_
    go_big_quiet_step (fail)
    refine wpQuiet_nil ?_
    clear c0 c1 hov
    refine wpM_call 2 41 #[.int .i64 (n : Int)] (.string dn) rfl (by kernel_rfl) (fun _ d _ _ _ h => by cases d <;> exact h) rfl (fun x => by go_simp) (fun x bx => (hdc x).out) (fun K hK => ?_)
    go_simp
    refine hK _ ?_
    clear hK K
    refine wpM_ready [3] (by kernel_rfl) (by decide) (AllM.cons rfl (fun w4 b4 K hK => ?_) AllM.nil)
    go_simp
    have b45 : le w4 (w4.alloc (.cells #[.string ⟨#[60]⟩, .string ⟨#[61]⟩, .string ⟨#[62]⟩] 9)) := (Below.refl _ _).alloc (Nat.le_refl _) _
    have R5 := Blk.new w4 #[.string ⟨#[60]⟩, .string ⟨#[61]⟩, .string ⟨#[62]⟩] 9
    refine hK _ _ (.inr b45) ?_
    clear hK K
    have B4 := B3.trans (b4.mono B3.size)
    have B5 := B4.trans (b45.mono B4.size)
    obtain ⟨q, hq⟩ : ∃ x, x = w4.heap.size := ⟨_, rfl⟩
    rw [← hq] at R5 ⊢
    generalize hW : w4.alloc _ = w5 at R5 b45 B5 ⊢
    have c5 := R5.cell 2 rfl
    have g5 := R5.lt
    have hov := cell_over w5
    clear hW hq b45 b4 B4 B3 R5
    refine wpM_read 7 rfl rfl (by kernel_rfl) (fun _ d _ _ _ h => by cases d <;> exact h) ?_
    go_big_quiet_step (fail)
    refine wpQuiet_nil ?_
    refine wpM_read 8 rfl rfl (by kernel_rfl) (fun _ d _ _ _ h => by cases d <;> exact h) ?_
    go_big_quiet_step (fail)
    refine wpQuiet_nil ?_
    refine wpM_read 9 rfl rfl (by kernel_rfl) (fun _ d _ _ _ h => by cases d <;> exact h) ?_
    go_big_quiet_step (fail)
    refine wpQuiet_nil ?_
    refine wpM_read 10 rfl rfl (by kernel_rfl) (fun _ d _ _ _ h => by cases d <;> exact h) ?_
    go_big_quiet_step (fail)
    refine wpQuiet_nil ?_
    refine wpM_done (by kernel_rfl) (fun w8 b8 => ?_)
    clear c5 g5 hov
    go_wp2
    go_ret
    exact ⟨by rw [HR.out, HDN.out]; rfl, B5.trans (b8.mono B5.size)⟩

end Go.Proofs.YtnkhgfdlehhjmaaDoor
