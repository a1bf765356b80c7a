/-
  Joins of tables: the program's joined.
-/
import Derived.Test.YtbiagkbjhdidjaaDoorTabJK
import Derived.Test.YtbiagkbjhdidjaaDoorCalmPK
import Derived.Deep.DeepCutAuto
namespace Go.Proofs.YtbiagkbjhdidjaaDoor
open Go.RowKit

theorem tab_ow {w0 w : World} {ps : List Ob} {v1 v2 : Value} {x : Table} (S : Star w0 w (oE exitsE [v1] x.left :: oE exitsE [v2] x.right :: ps)) : Star w0 w (oE tabE [v1, v2] x :: ps) :=
  Star.via (E := pairE exitsE exitsE) (F := fun r : Table => (r.left, r.right)) S.pair x rfl

theorem tab_made {w0 w : World} {ps : List Ob} {v1 v2 : Value} {x : Table} (S : Star w0 w (oE exitsE [v1] x.left :: oE exitsE [v2] x.right :: ps)) :
    MakesS tabE id x w0 (.returned (.agg #[v1, v2])) w := by
  obtain ⟨f, h1, h2, h3⟩ := (tab_ow S).out
  exact ⟨[v1, v2], f, rfl, h1, h2, h3, S.below⟩

theorem ow_exit {x y : Int} (h : -9223372036854775808 ≤ x ∧ x ≤ 9223372036854775807) (k : -9223372036854775808 ≤ y ∧ y ≤ 9223372036854775807) (w : World) : exitE.ow w [Value.int .i64 x, Value.int .i64 y] ⟨x, y⟩ [] :=
  ⟨[_], [_], [], [], rfl, rfl, ⟨⟨rfl, h⟩, rfl⟩, ⟨⟨rfl, k⟩, rfl⟩⟩

theorem exit_bounds {n : Nat} {e : Ext} (h : exitOk n e) (hn : n ≤ 100) : (-9223372036854775808 ≤ e.side ∧ e.side ≤ 9223372036854775807) ∧ (-9223372036854775808 ≤ e.to ∧ e.to ≤ 9223372036854775807) := by
  unfold exitOk at h
  omega

theorem Star.exit {w0 w : World} {ps : List Ob} {e : Ext} {n : Nat} (S : Star w0 w ps) (h : exitOk n e) (hn : n ≤ 100) : Star w0 w (oE exitE [Value.int .i64 e.side, Value.int .i64 e.to] e :: ps) :=
  S.flat (ow_exit (exit_bounds h hn).1 (exit_bounds h hn).2 w)

theorem joinedT_takes {n : Nat} {x y : Table} (hx : TabOk n x) (k : Nat) (h : k < n) :
    (joinedT x y).left.take (k + 1) = (joinedT x y).left.take k ++ [betweenT x y (x.left[k]?.getD default) true] ∧ (joinedT x y).right.take (k + 1) = (joinedT x y).right.take k ++ [betweenT x y (y.right[k]?.getD default) false] := by
  unfold joinedT
  rw [hx.l]
  exact ⟨take_range_map _ n k h, take_range_map _ n k h⟩

set_option maxHeartbeats 8000000 in
set_option maxRecDepth 100000 in
theorem joined_any (n : Nat) (x y : Table) (cx cy : List Value) (B : Nat) (w : World) (hB : B ≤ w.heap.size) (hx : tabE.rd w B cx x) (hy : tabE.rd w B cy y) (kx : TabOk n x) (ky : TabOk n y) (hn : n ≤ 12) :
    Calls Tryd.prog 20 #[.agg cx.toArray, .agg cy.toArray] w (MakesS tabE id (joinedT x y) w) := by
  have RX := Lib.hid hx
  have RY := Lib.hid hy
  obtain ⟨v1, v2, rfl, h1, h2⟩ := rd_Table hx
  obtain ⟨u1, u2, rfl, j1, j2⟩ := rd_Table hy
  obtain ⟨a1, c1, rfl, p1, p2, -, p4⟩ := rd_exitsE h1
  obtain ⟨a2, c2, rfl, -, -, -, -⟩ := rd_exitsE h2
  obtain ⟨b1, d1, rfl, -, -, -, -⟩ := rd_exitsE j1
  obtain ⟨b2, d2, rfl, q1, q2, -, q4⟩ := rd_exitsE j2
  rw [kx.l, kx.r] at RX ⊢
  rw [ky.l, ky.r] at RY ⊢
  rw [kx.l] at p1 p4
  rw [ky.r] at q1 q4
  have P4 := Lib.hid p4; have Q4 := Lib.hid q4; have KX := Lib.hid kx; have KY := Lib.hid ky
  have S := ((((Star.nil w).alloc (cs := #[.slice a1 n c1, .slice a2 n c2]) (ty := 27)).alloc (cs := #[.slice b1 n d1, .slice b2 n d2]) (ty := 27)).alloc (cs := #[.slice none 0 0, .slice none 0 0]) (ty := 27)).alloc (cs := #[.slice none 0 0, .slice none 0 0]) (ty := 27)
  rw [World.size_alloc, World.size_alloc, World.size_alloc] at S
  clear hx hy h1 h2 j1 j2 p4 q4 kx ky
  go_enter Tryd.func20, Tryd.ntmps20
  go_wp2
  generalize hW : (((w.alloc _).alloc _).alloc _).alloc _ = w0 at S ⊢
  obtain ⟨g2, hg2⟩ : ∃ g, g = w.heap.size := ⟨_, rfl⟩
  rw [← hg2] at S ⊢
  obtain ⟨g3, hg3⟩ : ∃ g, g = g2 + 1 := ⟨_, rfl⟩
  rw [← hg3] at S ⊢
  obtain ⟨g4, hg4⟩ : ∃ g, g = g3 + 1 := ⟨_, rfl⟩
  rw [← hg4] at S ⊢
  obtain ⟨g5, hg5⟩ : ∃ g, g = g4 + 1 := ⟨_, rfl⟩
  rw [← hg5] at S ⊢
  clear hW hg2 hg3 hg4 hg5
  replace S := (((S.nils exitE 53).nils exitE 53)).sel [2, 0, 1, 3, 4, 5]
  go_loopw [6, 11] (fun _ vk wr => ∃ (k : Nat) (la : Option Addr) (ln lc : Nat) (ra : Option Addr) (rn rc : Nat), k ≤ n ∧ vk = .int .i64 k ∧ Star w wr [oB g5 [.slice la ln lc, .slice ra rn rc] 27, oE exitsE [.slice la ln lc] ((joinedT x y).left.take k), oE exitsE [.slice ra rn rc] ((joinedT x y).right.take k), oB g4 [.slice none 0 0, .slice none 0 0] 27, oB g3 [.slice b1 n d1, .slice b2 n d2] 27, oB g2 [.slice a1 n c1, .slice a2 n c2] 27]) (fun _ vk _ => n - (intOf vk).toNat)
  case atStart => exact ⟨0, _, _, _, _, _, _, Nat.zero_le _, rfl, S⟩
  case round =>
    clear S
    obtain ⟨k, la, ln, lc, ra, rn, rc, hk, rfl, S⟩ := hrel
    by_cases hkn : k < n
    case neg =>
      obtain rfl : k = n := by omega
      have e1 : (joinedT x y).left.take k = (joinedT x y).left := List.take_of_length_le (by rw [(joined_len x y).1, KX.out.l]; exact Nat.le_refl _)
      have e2 : (joinedT x y).right.take k = (joinedT x y).right := List.take_of_length_le (by rw [(joined_len x y).2, KX.out.l]; exact Nat.le_refl _)
      rw [e1, e2] at S
      have z0 := (S.blk 0 rfl).cell 0 rfl
      have z1 := (S.blk 0 rfl).cell 1 rfl
      have A1 := S.blk 3 rfl
      have y0 := A1.cell 0 rfl
      have y1 := A1.cell 1 rfl
      have yf := A1.free
      clear e1 e2 A1
      go_wp2
      generalize hW : (wr.setCell _ _).setCell _ _ = w9
      have S9 : Star w w9 _ := hW ▸ ((S.sel [3, 1, 2]).set 0 (.slice la ln lc)).set 1 (.slice ra rn rc)
      have A3 := S9.blk 0 rfl
      have r0 := A3.cell 0 rfl
      have r1 := A3.cell 1 rfl
      exact bodyPost_ret (v := .agg #[.slice la ln lc, .slice ra rn rc]) (by simp [results, Tryd.results20, go_sem, r0, r1]) rfl (tab_made (S9.sel [1, 2]))
    obtain ⟨t1, t2⟩ := joinedT_takes (y := y) KX.out k hkn
    obtain ⟨xb, xo, rfl, -, ⟨k0, k1⟩, -⟩ := P4.out k hkn
    obtain ⟨yb, yo, rfl, -, ⟨m0, m1⟩, -⟩ := Q4.out k hkn
    have ok1 := getD_okE KX.out.le KX.out.l (k := (k : Int)) (by omega) (by omega)
    have ok2 := getD_okE KY.out.re KY.out.r (k := (k : Int)) (by omega) (by omega)
    rw [Int.toNat_natCast] at ok1 ok2
    obtain ⟨e1, he1⟩ : ∃ e, e = x.left[k]?.getD default := ⟨_, rfl⟩
    obtain ⟨e2, he2⟩ : ∃ e, e = y.right[k]?.getD default := ⟨_, rfl⟩
    rw [← he1] at t1 k0 k1 ok1
    rw [← he2] at t2 m0 m1 ok2
    have ko1 : exitOk n (betweenT x y e1 true) := betw_ok KX.out KY.out _ _ ok1
    have ko2 : exitOk n (betweenT x y e2 false) := betw_ok KX.out KY.out _ _ ok2
    obtain ⟨r1, hr1⟩ : ∃ r, r = betweenT x y e1 true := ⟨_, rfl⟩
    obtain ⟨r2, hr2⟩ : ∃ r, r = betweenT x y e2 false := ⟨_, rfl⟩
    rw [← hr1] at t1 ko1
    rw [← hr2] at t2 ko2
    have hl1 : ((joinedT x y).left.take k).length ≤ 1000000000000 := by rw [List.length_take]; omega
    have hl2 : ((joinedT x y).right.take k).length ≤ 1000000000000 := by rw [List.length_take]; omega
    have HB1 := Lib.hid (fun w' (bl : Below w.heap.size w w') => between_any n x y e1 true _ _ B w' (Nat.le_trans hB bl.size) (tabE.rd_of (bl.mono hB) RX.out) (tabE.rd_of (bl.mono hB) RY.out) KX.out KY.out ok1 hn r1 hr1.symm)
    have HB2 := Lib.hid (fun w' (bl : Below w.heap.size w w') => between_any n x y e2 false _ _ B w' (Nat.le_trans hB bl.size) (tabE.rd_of (bl.mono hB) RX.out) (tabE.rd_of (bl.mono hB) RY.out) KX.out KY.out ok2 hn r2 hr2.symm)
    have T1 := Lib.hid t1; have T2 := Lib.hid t2; have KO1 := Lib.hid ko1; have KO2 := Lib.hid ko2
    have i1 : (0 : Int) ≤ (k : Int) := by omega
    have i2 : (k : Int) < (n : Int) := by omega
    clear t1 t2 ok1 ok2 he1 he2 ko1 ko2 hr1 hr2
    obtain ⟨L, hL⟩ : ∃ L, L = (joinedT x y).left.take k := ⟨_, rfl⟩
    obtain ⟨R, hR⟩ : ∃ R, R = (joinedT x y).right.take k := ⟨_, rfl⟩
    rw [← hL] at S T1 hl1
    rw [← hR] at S T2 hl2
    clear hL hR
    go_wp2
    refine wp_region_p [] 14 (by kernel_rfl) rfl ?_
    intro w5 b5
    replace S := S.step b5
    clear b5
    have BW := S.below
    have z0 := (S.blk 0 rfl).cell 0 rfl
    have gl0 := (S.blk 0 rfl).lt
    have f0 := (S.blk 4 rfl).cell 0 rfl
    have f1 := (S.blk 4 rfl).cell 1 rfl
    have gl4 := (S.blk 4 rfl).lt
    have h0 := (S.blk 5 rfl).cell 0 rfl
    have h1 := (S.blk 5 rfl).cell 1 rfl
    have gl5 := (S.blk 5 rfl).lt
    have n0 := (BW.cell (World.block_lt_of_cell? w _ k0)).trans k0
    have n1 := (BW.cell (World.block_lt_of_cell? w _ k1)).trans k1
    have gl6 := World.block_lt_of_cell? w5 _ n0
    have hov := cell_over w5
    refine wpP_read 0 rfl rfl (by kernel_rfl) rfl (fun _ d _ _ _ h => by cases d <;> exact h) ?_
    go_big_quiet_step (fail)
    refine wpQuiet_nil ?_
    refine wpP_read 1 rfl rfl (by kernel_rfl) rfl (fun _ d _ _ _ h => by cases d <;> exact h) ?_
    go_big_quiet_step (fail)
    refine wpQuiet_nil ?_
    refine wpP_read 2 rfl rfl (by kernel_rfl) rfl (fun _ d _ _ _ h => by cases d <;> exact h) ?_
    go_big_quiet_step (fail)
    refine wpQuiet_nil ?_
    refine wpP_read 3 rfl rfl (by kernel_rfl) rfl (fun _ d _ _ _ h => by cases d <;> exact h) ?_
    go_big_quiet_step (fail)
    refine wpQuiet_nil ?_
    refine wpP_read 4 rfl rfl (by kernel_rfl) rfl (fun _ d _ _ _ h => by cases d <;> exact h) ?_
    go_big_quiet_step (fail)
    refine wpQuiet_nil ?_
    refine wpP_read 5 rfl rfl (by kernel_rfl) rfl (fun _ d _ _ _ h => by cases d <;> exact h) ?_
    go_big_quiet_step (fail)
    refine wpQuiet_nil ?_
    refine wpP_read 6 rfl rfl (by kernel_rfl) rfl (fun _ d _ _ _ h => by cases d <;> exact h) ?_
    go_big_quiet_step (fail)
    refine wpQuiet_nil ?_
    refine wpP_read 7 rfl rfl (by kernel_rfl) rfl (fun _ d _ _ _ h => by cases d <;> exact h) ?_
    go_big_quiet_step (fail)
    refine wpQuiet_nil ?_
    refine wpP_read 8 rfl rfl (by kernel_rfl) rfl (fun _ d _ _ _ h => by cases d <;> exact h) ?_
    go_big_quiet_step (fail)
    refine wpQuiet_nil ?_
    clear z0 gl0 f0 f1 gl4 h0 h1 gl5 n0 n1 gl6 hov BW
    refine wpP_ready [9] (by kernel_rfl) (by decide) (AllP.cons rfl (fun w6 b6 K hK => ?_) AllP.nil)
    have SL := (Star.nil w5).step b6
    go_simp
    go_at_call 39
    refine (HB1.out w6 (S.below.trans (SL.below.mono S.below.size))).mono ?_
    rintro e w7 ⟨rfl, b7⟩
    try go_simp
    refine hK _ _ (.inr (leN.of_below b6.size b6.size b7)) ?_
    clear hK K
    replace SL := SL.step b7
    clear b6 b7
    refine wpP_ready [10] (by kernel_rfl) (by decide) (AllP.cons rfl (fun w8 b8 K hK => ?_) AllP.nil)
    replace SL := SL.step b8
    have L8 := leN.of_below (Nat.le_refl _) (Nat.le_refl _) SL.below
    go_simp
    refine hK _ _ (.inr (leN.of_le L8.hi ((Below.refl w8.heap.size w8).alloc (Nat.le_refl _) _))) ?_
    clear hK K L8 b8
    replace SL := SL.alloc (cs := #[.int .i64 r1.side, .int .i64 r1.to]) (ty := 53)
    generalize hW5 : w8.alloc _ = w9 at SL ⊢
    clear hW5
    obtain ⟨gq, hgq⟩ : ∃ g, g = w8.heap.size := ⟨_, rfl⟩
    rw [← hgq] at SL ⊢
    clear hgq
    refine wpP_ready [11] (by kernel_rfl) (by decide) (AllP.cons rfl (fun w12 b12 K hK => ?_) AllP.nil)
    replace SL := SL.step b12
    clear b12
    have hq0 := (SL.blk 0 rfl).cell 0 rfl
    have hq1 := (SL.blk 0 rfl).cell 1 rfl
    have N12 := SL.below.size
    have SM := ((S.step SL.below).exit KO1.out (by omega)).sel [2, 0, 1, 3, 4, 5, 6]
    refine sst1z_ExitS SM rfl rfl rfl rfl (fun j u hu => by match j, hu with | 0, hu => exact hq0.trans hu | 1, hu => exact hq1.trans hu) (one_mem2 rfl rfl) hl1 ?_
    intro sa sn sc w13 hz S13
    try go_simp
    refine hK _ _ (.inl ⟨alone_of (by kernel_rfl), Nat.le_trans N12 hz⟩) ?_
    have N13 := Nat.le_trans N12 hz
    clear hK K SL hq0 hq1 N12 SM S hz
    refine wpP_pure 12 rfl rfl (by kernel_rfl) N13 (fun _ d _ _ _ h => by cases d <;> exact h) ?_
    go_big_quiet_step (fail)
    refine wpQuiet_nil ?_
    refine wpP_ready [13] (by kernel_rfl) (by decide) (AllP.cons rfl (fun w14 b14 K hK => ?_) AllP.nil)
    replace S13 := (S13.step b14).sel [1, 0, 2, 3, 4, 5]
    have N14 := Nat.le_trans N13 b14.size
    clear b14 N13
    have x0 := (S13.blk 0 rfl).cell 0 rfl
    have xf := (S13.blk 0 rfl).free
    go_simp
    refine hK _ _ (.inl ⟨alone_of (by kernel_rfl), by simpa using N14⟩) ?_
    clear hK K N14 x0 xf
    refine wpP_done (by kernel_rfl) (fun w15 b15 => ?_)
    have S := (S13.set 0 (.slice sa sn sc)).step b15
    clear b15 S13
    rw [← T1.out] at S
    clear HB1
    go_wp2
    refine wp_region_p [] 14 (by kernel_rfl) rfl ?_
    intro w5 b5
    replace S := S.step b5
    clear b5
    have BW := S.below
    have z1 := (S.blk 0 rfl).cell 1 rfl
    have gl0 := (S.blk 0 rfl).lt
    have f0 := (S.blk 4 rfl).cell 0 rfl
    have f1 := (S.blk 4 rfl).cell 1 rfl
    have gl4 := (S.blk 4 rfl).lt
    have h0 := (S.blk 5 rfl).cell 0 rfl
    have h1 := (S.blk 5 rfl).cell 1 rfl
    have gl5 := (S.blk 5 rfl).lt
    have n0 := (BW.cell (World.block_lt_of_cell? w _ m0)).trans m0
    have n1 := (BW.cell (World.block_lt_of_cell? w _ m1)).trans m1
    have gl6 := World.block_lt_of_cell? w5 _ n0
    have hov := cell_over w5
    refine wpP_read 0 rfl rfl (by kernel_rfl) rfl (fun _ d _ _ _ h => by cases d <;> exact h) ?_
    go_big_quiet_step (fail)
    refine wpQuiet_nil ?_
    refine wpP_read 1 rfl rfl (by kernel_rfl) rfl (fun _ d _ _ _ h => by cases d <;> exact h) ?_
    go_big_quiet_step (fail)
    refine wpQuiet_nil ?_
    refine wpP_read 2 rfl rfl (by kernel_rfl) rfl (fun _ d _ _ _ h => by cases d <;> exact h) ?_
    go_big_quiet_step (fail)
    refine wpQuiet_nil ?_
    refine wpP_read 3 rfl rfl (by kernel_rfl) rfl (fun _ d _ _ _ h => by cases d <;> exact h) ?_
    go_big_quiet_step (fail)
    refine wpQuiet_nil ?_
    refine wpP_read 4 rfl rfl (by kernel_rfl) rfl (fun _ d _ _ _ h => by cases d <;> exact h) ?_
    go_big_quiet_step (fail)
    refine wpQuiet_nil ?_
    refine wpP_read 5 rfl rfl (by kernel_rfl) rfl (fun _ d _ _ _ h => by cases d <;> exact h) ?_
    go_big_quiet_step (fail)
    refine wpQuiet_nil ?_
    refine wpP_read 6 rfl rfl (by kernel_rfl) rfl (fun _ d _ _ _ h => by cases d <;> exact h) ?_
    go_big_quiet_step (fail)
    refine wpQuiet_nil ?_
    refine wpP_read 7 rfl rfl (by kernel_rfl) rfl (fun _ d _ _ _ h => by cases d <;> exact h) ?_
    go_big_quiet_step (fail)
    refine wpQuiet_nil ?_
    refine wpP_read 8 rfl rfl (by kernel_rfl) rfl (fun _ d _ _ _ h => by cases d <;> exact h) ?_
    go_big_quiet_step (fail)
    refine wpQuiet_nil ?_
    clear z1 gl0 f0 f1 gl4 h0 h1 gl5 n0 n1 gl6 hov BW
    refine wpP_ready [9] (by kernel_rfl) (by decide) (AllP.cons rfl (fun w6 b6 K hK => ?_) AllP.nil)
    have SL := (Star.nil w5).step b6
    go_simp
    go_at_call 39
    refine (HB2.out w6 (S.below.trans (SL.below.mono S.below.size))).mono ?_
    rintro e w7 ⟨rfl, b7⟩
    try go_simp
    refine hK _ _ (.inr (leN.of_below b6.size b6.size b7)) ?_
    clear hK K
    replace SL := SL.step b7
    clear b6 b7
    refine wpP_ready [10] (by kernel_rfl) (by decide) (AllP.cons rfl (fun w8 b8 K hK => ?_) AllP.nil)
    replace SL := SL.step b8
    have L8 := leN.of_below (Nat.le_refl _) (Nat.le_refl _) SL.below
    go_simp
    refine hK _ _ (.inr (leN.of_le L8.hi ((Below.refl w8.heap.size w8).alloc (Nat.le_refl _) _))) ?_
    clear hK K L8 b8
    replace SL := SL.alloc (cs := #[.int .i64 r2.side, .int .i64 r2.to]) (ty := 53)
    generalize hW5 : w8.alloc _ = w9 at SL ⊢
    clear hW5
    obtain ⟨gq, hgq⟩ : ∃ g, g = w8.heap.size := ⟨_, rfl⟩
    rw [← hgq] at SL ⊢
    clear hgq
    refine wpP_ready [11] (by kernel_rfl) (by decide) (AllP.cons rfl (fun w12 b12 K hK => ?_) AllP.nil)
    replace SL := SL.step b12
    clear b12
    have hq0 := (SL.blk 0 rfl).cell 0 rfl
    have hq1 := (SL.blk 0 rfl).cell 1 rfl
    have N12 := SL.below.size
    have SM := ((S.step SL.below).exit KO2.out (by omega)).sel [3, 0, 1, 2, 4, 5, 6]
    refine sst1z_ExitS SM rfl rfl rfl rfl (fun j u hu => by match j, hu with | 0, hu => exact hq0.trans hu | 1, hu => exact hq1.trans hu) (one_mem2 rfl rfl) hl2 ?_
    intro ta tn tc w13 hz S13
    try go_simp
    refine hK _ _ (.inl ⟨alone_of (by kernel_rfl), Nat.le_trans N12 hz⟩) ?_
    have N13 := Nat.le_trans N12 hz
    clear hK K SL hq0 hq1 N12 SM S hz
    refine wpP_pure 12 rfl rfl (by kernel_rfl) N13 (fun _ d _ _ _ h => by cases d <;> exact h) ?_
    go_big_quiet_step (fail)
    refine wpQuiet_nil ?_
    refine wpP_ready [13] (by kernel_rfl) (by decide) (AllP.cons rfl (fun w14 b14 K hK => ?_) AllP.nil)
    replace S13 := (S13.step b14).sel [1, 2, 0, 3, 4, 5]
    have N14 := Nat.le_trans N13 b14.size
    clear b14 N13
    have x1 := (S13.blk 0 rfl).cell 1 rfl
    have xf := (S13.blk 0 rfl).free
    go_simp
    refine hK _ _ (.inl ⟨alone_of (by kernel_rfl), by simpa using N14⟩) ?_
    clear hK K N14 x1 xf
    refine wpP_done (by kernel_rfl) (fun w15 b15 => ?_)
    have S := (S13.set 1 (.slice ta tn tc)).step b15
    clear b15 S13
    rw [← T2.out] at S
    go_wp2
    go_roundw
    case rel => exact ⟨k + 1, _, _, _, _, _, _, by omega, by go_num, S⟩
    case measure => simp [intOf]; omega

end Go.Proofs.YtbiagkbjhdidjaaDoor
