/-
  Joins of tables: the program's between.
-/
import Derived.Test.YtbiagkbjhdidjaaDoorTabVK
namespace Go.Proofs.YtbiagkbjhdidjaaDoor
open Go.RowKit

theorem on_any (w : World) : Calls Tryd.prog 49 #[] w (Gives (.agg #[.int .i64 0, .int .i64 (-3)]) w) := by
  have S := (Star.nil w).alloc (cs := #[.int .i64 0, .int .i64 0]) (ty := 53)
  go_enter Tryd.func49, Tryd.ntmps49
  go_wp2
  refine bodyPost_ret (v := .agg #[.int .i64 0, .int .i64 (-3)]) (by simp [results, Tryd.results49, go_sem]) rfl ⟨rfl, ?_⟩
  exact (Below.refl _ _).alloc (Nat.le_refl _) _

theorem goF_stop {C : Type} {halt : C → Option Ext} {step : C → C} {f : Nat} {c : C} {r : Ext} (h : halt c = some r) : goF halt step (f + 1) c = r := by
  unfold goF; rw [h]
theorem goF_next {C : Type} {halt : C → Option Ext} {step : C → C} {f : Nat} {c : C} (h : halt c = none) : goF halt step (f + 1) c = goF halt step f (step c) := by
  rw [goF, h]

set_option maxHeartbeats 4000000 in
set_option maxRecDepth 100000 in
theorem between_any (n : Nat) (x y : Table) (e : Ext) (first : Bool) (cx cy : List Value) (B : Nat) (w : World) (hB : B ≤ w.heap.size) (hx : tabE.rd w B cx x) (hy : tabE.rd w B cy y) (kx : TabOk n x) (ky : TabOk n y) (he : exitOk n e) (hn : n ≤ 12) (R : Ext) (hR : betweenT x y e first = R) :
    Calls Tryd.prog 39 #[.agg cx.toArray, .agg cy.toArray, .agg #[.int .i64 e.side, .int .i64 e.to], .bool first] w (Gives (.agg #[.int .i64 R.side, .int .i64 R.to]) w) := by
  obtain ⟨v1, v2, rfl, h1, h2⟩ := rd_Table hx
  obtain ⟨u1, u2, rfl, j1, j2⟩ := rd_Table hy
  obtain ⟨a1, c1, rfl, -, -, -, -⟩ := rd_exitsE h1
  obtain ⟨a2, c2, rfl, p1, p2, -, p4⟩ := rd_exitsE h2
  obtain ⟨b1, d1, rfl, q1, q2, -, q4⟩ := rd_exitsE j1
  obtain ⟨b2, d2, rfl, -, -, -, -⟩ := rd_exitsE j2
  rw [kx.l, kx.r]
  rw [ky.l, ky.r]
  rw [kx.r] at p1 p4
  rw [ky.l] at q1 q4
  unfold betweenT at hR
  rw [kx.l] at hR
  have P4 := Lib.hid p4; have Q4 := Lib.hid q4; have KX := Lib.hid kx; have KY := Lib.hid ky
  have S := ((((Star.nil w).alloc (cs := #[.slice a1 n c1, .slice a2 n c2]) (ty := 27)).alloc (cs := #[.slice b1 n d1, .slice b2 n d2]) (ty := 27)).alloc (cs := #[.int .i64 e.side, .int .i64 e.to]) (ty := 53)).alloc (cs := #[.int .i64 0, .int .i64 0]) (ty := 53)
  rw [World.size_alloc, World.size_alloc, World.size_alloc] at S
  obtain ⟨F, hF⟩ : ∃ F, F = 2 * n + 2 := ⟨_, rfl⟩
  rw [← hF] at hR
  have w1 : IntKind.i64.wrap (2 * (n : Int)) = 2 * (n : Int) := IntWalk.i64_in _ ⟨by omega, by omega⟩
  have w2 : IntKind.i64.wrap (2 * (n : Int) + 2) = (F : Int) := by rw [IntWalk.i64_in _ ⟨by omega, by omega⟩]; omega
  have hF26 : F ≤ 26 := by omega
  have HR := Lib.hid hR; have HE := Lib.hid he
  clear hx hy h1 h2 j1 j2 p4 q4 kx ky hR he hF
  go_enter Tryd.func39, Tryd.ntmps39
  go_wp2
  generalize hW : (((w.alloc _).alloc _).alloc _).alloc _ = w0 at S ⊢
  obtain ⟨g4, hg4⟩ : ∃ g, g = w.heap.size := ⟨_, rfl⟩
  rw [← hg4] at S ⊢
  obtain ⟨g5, hg5⟩ : ∃ g, g = g4 + 1 := ⟨_, rfl⟩
  rw [← hg5] at S ⊢
  obtain ⟨g6, hg6⟩ : ∃ g, g = g5 + 1 := ⟨_, rfl⟩
  rw [← hg6] at S ⊢
  obtain ⟨g8, hg8⟩ : ∃ g, g = g6 + 1 := ⟨_, rfl⟩
  rw [← hg8] at S ⊢
  clear hW hg4 hg5 hg6 hg8
  replace S := S.sel [1, 0, 2, 3]
  go_loopw [3, 14, 22, 44] (fun vf vk _ _ wr => ∃ (k : Nat) (b : Bool) (e : Ext), k ≤ F ∧ vf = .bool b ∧ vk = .int .i64 k ∧ Star w wr [oB g6 [.int .i64 e.side, .int .i64 e.to] 53, oB g8 [.int .i64 0, .int .i64 0] 53, oB g5 [.slice b1 n d1, .slice b2 n d2] 27, oB g4 [.slice a1 n c1, .slice a2 n c2] 27] ∧ Hid (exitOk n e) ∧ Hid (goF halt2 (step2 x y) (F - k) (b, e) = R)) (fun _ vk _ _ _ => F - (intOf vk).toNat)
  case atStart => exact ⟨0, first, e, Nat.zero_le _, rfl, rfl, S, HE, HR⟩
  case round =>
    clear S HE HR
    obtain ⟨k, b, ⟨s, t⟩, hk, rfl, rfl, S, HE, HR⟩ := hrel
    simp only at S
    have A0 := S.blk 0 rfl
    have x0 := A0.cell 0 rfl
    have x1 := A0.cell 1 rfl
    have xf := A0.free
    have A1 := S.blk 1 rfl
    have y0 := A1.cell 0 rfl
    have y1 := A1.cell 1 rfl
    have yf := A1.free
    have z0 := (S.blk 2 rfl).cell 0 rfl
    have t1 := (S.blk 3 rfl).cell 1 rfl
    clear A0 A1
    by_cases hkF : k < F
    case neg =>
      have hr := HR.out
      rw [show F - k = 0 from by omega] at hr
      have hr2 : exOn = R := hr
      subst hr2
      clear hr HR
      go_wp2_with fail
      refine (on_any wr).mono ?_
      rintro e' w5 ⟨rfl, b5⟩
      replace S := S.step b5
      have A1 := S.blk 1 rfl
      have y0 := A1.cell 0 rfl
      have y1 := A1.cell 1 rfl
      have yf := A1.free
      clear x0 x1 xf z0 t1 A1
      go_wp2
      generalize hW : (w5.setCell _ _).setCell _ _ = w9
      have S9 : Star w w9 _ := hW ▸ ((S.sel [1]).set 0 (.int .i64 0)).set 1 (.int .i64 (-3))
      have A3 := S9.blk 0 rfl
      have r0 := A3.cell 0 rfl
      have r1 := A3.cell 1 rfl
      exact bodyPost_ret (v := .agg #[.int .i64 0, .int .i64 (-3)]) (by simp [results, Tryd.results39, go_sem, r0, r1]) rfl ⟨rfl, S9.below⟩
    obtain ⟨f, hf⟩ : ∃ f, F - k = f + 1 := ⟨F - k - 1, by omega⟩
    have hr := HR.out
    rw [hf] at hr
    have hf2 : F - (k + 1) = f := by omega
    have HF2 := Lib.hid hf2
    clear HR hf hf2
    by_cases hst : halt2 (b, ⟨s, t⟩) = some ⟨s, t⟩
    · rw [goF_stop hst] at hr
      subst hr
      simp only
      have hs : s = 0 ∨ (b = true ∧ s = -1) ∨ (b = false ∧ s = 1) := by
        unfold halt2 at hst
        split at hst
        · assumption
        · cases hst
      clear hst z0 t1
      have SB := (S.sel [1]).set 0 (.int .i64 s)
      rcases hs with rfl | ⟨rfl, rfl⟩ | ⟨rfl, rfl⟩
      all_goals
        go_wp2
        generalize hW : (wr.setCell _ _).setCell _ _ = w9
        have S9 : Star w w9 _ := hW ▸ SB.set 1 (.int .i64 t)
        have A3 := S9.blk 0 rfl
        have r0 := A3.cell 0 rfl
        have r1 := A3.cell 1 rfl
        exact bodyPost_ret (v := .agg #[_, .int .i64 t]) (by simp [results, Tryd.results39, go_sem, r0, r1]) rfl ⟨rfl, S9.below⟩
    · have hno : halt2 (b, ⟨s, t⟩) = none := by
        unfold halt2 at hst ⊢
        split
        · rename_i h; rw [if_pos h] at hst; exact absurd rfl hst
        · rfl
      rw [goF_next hno] at hr
      rcases halt2_none hno HE.out with ⟨m1, m2, m3, m4⟩ | ⟨m1, m2, m3, m4⟩
      · simp only at m1 m2 m3 m4
        subst m1 m2
        obtain ⟨p, rfl⟩ : ∃ p : Nat, t = p := ⟨t.toNat, by omega⟩
        have hpn : p < n := by omega
        have hok := getD_okE KY.out.le KY.out.l (k := (p : Int)) (by omega) (by omega)
        rw [Int.toNat_natCast] at hok
        have hstp : step2 x y (true, ⟨1, (p : Int)⟩) = (false, y.left[p]?.getD default) := by unfold step2; rw [if_pos rfl, Int.toNat_natCast]
        rw [hstp] at hr
        obtain ⟨bb, oo, rfl, -, ⟨k0, k1⟩, -⟩ := Q4.out p hpn
        obtain ⟨⟨s2, t2⟩, hz⟩ : ∃ z, z = y.left[p]?.getD default := ⟨_, rfl⟩
        rw [← hz] at hok hr k0 k1
        simp only at k0 k1
        have k0 := (S.below.cell (World.block_lt_of_cell? w _ k0)).trans k0
        have k1 := (S.below.cell (World.block_lt_of_cell? w _ k1)).trans k1
        have HR2 := Lib.hid hr; have HOK := Lib.hid hok
        have i1 : (0 : Int) ≤ (p : Int) := by omega
        have i2 : (p : Int) < (n : Int) := by omega
        clear hst hno hstp hr hok hz y0 y1 yf t1
        go_wp2
        go_roundw
        case rel => exact ⟨k + 1, false, ⟨s2, t2⟩, by omega, rfl, by go_num, (S.set 0 (.int .i64 s2)).set 1 (.int .i64 t2), HOK, by rw [HF2.out]; exact HR2⟩
        case measure => simp [intOf]; omega
      · simp only at m1 m2 m3 m4
        subst m1 m2
        obtain ⟨p, rfl⟩ : ∃ p : Nat, t = p := ⟨t.toNat, by omega⟩
        have hpn : p < n := by omega
        have hok := getD_okE KX.out.re KX.out.r (k := (p : Int)) (by omega) (by omega)
        rw [Int.toNat_natCast] at hok
        have hstp : step2 x y (false, ⟨-1, (p : Int)⟩) = (true, x.right[p]?.getD default) := by unfold step2; rw [if_neg (fun e => Bool.noConfusion e), Int.toNat_natCast]
        rw [hstp] at hr
        obtain ⟨bb, oo, rfl, -, ⟨k0, k1⟩, -⟩ := P4.out p hpn
        obtain ⟨⟨s2, t2⟩, hz⟩ : ∃ z, z = x.right[p]?.getD default := ⟨_, rfl⟩
        rw [← hz] at hok hr k0 k1
        simp only at k0 k1
        have k0 := (S.below.cell (World.block_lt_of_cell? w _ k0)).trans k0
        have k1 := (S.below.cell (World.block_lt_of_cell? w _ k1)).trans k1
        have HR2 := Lib.hid hr; have HOK := Lib.hid hok
        have i1 : (0 : Int) ≤ (p : Int) := by omega
        have i2 : (p : Int) < (n : Int) := by omega
        clear hst hno hstp hr hok hz y0 y1 yf z0
        go_wp2
        go_roundw
        case rel => exact ⟨k + 1, true, ⟨s2, t2⟩, by omega, rfl, by go_num, (S.set 0 (.int .i64 s2)).set 1 (.int .i64 t2), HOK, by rw [HF2.out]; exact HR2⟩
        case measure => simp [intOf]; omega

end Go.Proofs.YtbiagkbjhdidjaaDoor
