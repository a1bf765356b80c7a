/-
  Tables of the empty word, turned tables, and tables compared.
-/
import Derived.Laws.StructEq
import Derived.Test.YtbiagkbjhdidjaaDoorTabKK
namespace Go.Proofs.YtbiagkbjhdidjaaDoor
open Go.RowKit

theorem tab_done2 {w0 w : World} {ps : List Ob} {v1 v2 : Value} {x : Table} {c : Int} (S : Star w0 w (oE exitsE [v1] x.left :: oE exitsE [v2] x.right :: ps)) :
    MakesC tabE (x, c) w0 (.returned (.tuple #[.agg #[v1, v2], .int .i64 c])) w := Star.done (x := (x, c)) (tab_ow S)

set_option maxHeartbeats 4000000 in
set_option maxRecDepth 100000 in
theorem emptyT_any (n : Nat) (w : World) (hn : n ≤ 12) (hn1 : 1 ≤ n) : Calls Tryd.prog 22 #[.int .i64 (n : Nat)] w (MakesS tabE id (emptyT n) w) := by
  have S := ((((Star.nil w).alloc (cs := #[.slice none 0 0, .slice none 0 0]) (ty := 27)).alloc (cs := #[.slice none 0 0, .slice none 0 0]) (ty := 27)).nils exitE 53).nils exitE 53
  rw [World.size_alloc] at S
  go_enter Tryd.func22, Tryd.ntmps22
  go_wp2
  generalize hW : (w.alloc _).alloc _ = w0 at S ⊢
  obtain ⟨g2, hg2⟩ : ∃ g, g = w.heap.size := ⟨_, rfl⟩
  rw [← hg2] at S ⊢
  obtain ⟨g3, hg3⟩ : ∃ g, g = g2 + 1 := ⟨_, rfl⟩
  rw [← hg3] at S ⊢
  clear hW hg2 hg3
  replace S := S.sel [2, 0, 1, 3]
  go_loopw [4, 7] (fun _ vk wr => ∃ (k : Nat) (la : Option Addr) (ln lc : Nat) (ra : Option Addr) (rn rc : Nat), k ≤ n ∧ vk = .int .i64 k ∧ Star w wr [oB g3 [.slice la ln lc, .slice ra rn rc] 27, oE exitsE [.slice la ln lc] ((emptyT n).left.take k), oE exitsE [.slice ra rn rc] ((emptyT n).right.take k), oB g2 [.slice none 0 0, .slice none 0 0] 27]) (fun _ vk _ => n - (intOf vk).toNat)
  case atStart => exact ⟨0, _, _, _, _, _, _, Nat.zero_le _, rfl, S⟩
  case round =>
    clear S
    obtain ⟨k, la, ln, lc, ra, rn, rc, hk, rfl, S⟩ := hrel
    have z0 := (S.blk 0 rfl).cell 0 rfl
    have z1 := (S.blk 0 rfl).cell 1 rfl
    by_cases hkn : k < n
    case neg =>
      obtain rfl : k = n := by omega
      have e1 : (emptyT k).left.take k = (emptyT k).left := List.take_of_length_le (by rw [(emptyT_ok hn1).l]; exact Nat.le_refl _)
      have e2 : (emptyT k).right.take k = (emptyT k).right := List.take_of_length_le (by rw [(emptyT_ok hn1).r]; exact Nat.le_refl _)
      rw [e1, e2] at S
      have A1 := S.blk 3 rfl
      have y0 := A1.cell 0 rfl
      have y1 := A1.cell 1 rfl
      have yf := A1.free
      clear e1 e2 A1
      go_wp2
      generalize hW : (wr.setCell _ _).setCell _ _ = w9
      have S9 : Star w w9 _ := hW ▸ ((S.sel [3, 1, 2]).set 0 (.slice la ln lc)).set 1 (.slice ra rn rc)
      have A3 := S9.blk 0 rfl
      have r0 := A3.cell 0 rfl
      have r1 := A3.cell 1 rfl
      exact bodyPost_ret (v := .agg #[.slice la ln lc, .slice ra rn rc]) (by simp [results, Tryd.results22, go_sem, r0, r1]) rfl (tab_made (S9.sel [1, 2]))
    have t1 : (emptyT n).left.take (k + 1) = (emptyT n).left.take k ++ [⟨1, (k : Nat)⟩] := take_range_map _ n k hkn
    have t2 : (emptyT n).right.take (k + 1) = (emptyT n).right.take k ++ [⟨-1, (k : Nat)⟩] := take_range_map _ n k hkn
    have hl1 : ((emptyT n).left.take k).length ≤ 1000000000000 := by rw [List.length_take]; omega
    have hl2 : ((emptyT n).right.take k).length ≤ 1000000000000 := by rw [List.length_take]; omega
    have T1 := Lib.hid t1; have T2 := Lib.hid t2
    obtain ⟨L, hL⟩ : ∃ L, L = (emptyT n).left.take k := ⟨_, rfl⟩
    obtain ⟨R, hR⟩ : ∃ R, R = (emptyT n).right.take k := ⟨_, rfl⟩
    rw [← hL] at S T1 hl1
    rw [← hR] at S T2 hl2
    clear t1 t2 hL hR
    have SA := ((S.alloc (cs := #[.int .i64 1, .int .i64 (k : Nat)]) (ty := 53)).exit (n := 12) (e := ⟨1, (k : Nat)⟩) (.inr ⟨.inr rfl, by show (0 : Int) ≤ (k : Int); omega, by show (k : Int) < 12; omega⟩) (by omega)).sel [3, 0, 2, 4, 5]
    go_upto_region 6 with (at_builtin; refine st1_ExitS SA rfl rfl rfl rfl cell_a1 (one_mem2 rfl rfl) hl1 ?_; intro ja jn jc w9 S9; have z0 := (S9.blk 1 rfl).cell 0 rfl; have zf := (S9.blk 1 rfl).free)
    generalize hW : w9.setCell _ _ = w10
    have S2 : Star w w10 _ := hW ▸ ((S9.sel [1, 0, 2, 3]).set 0 (.slice ja jn jc))
    clear hW S9 SA S zf z0 z1
    have z1 := (S2.blk 0 rfl).cell 1 rfl
    have SA := ((S2.alloc (cs := #[.int .i64 (-1), .int .i64 (k : Nat)]) (ty := 53)).exit (n := 12) (e := ⟨-1, (k : Nat)⟩) (.inr ⟨.inl rfl, by show (0 : Int) ≤ (k : Int); omega, by show (k : Int) < 12; omega⟩) (by omega)).sel [4, 0, 2, 3, 5]
    go_wp2_with (at_builtin; refine st1_ExitS SA rfl rfl rfl rfl cell_a1 (one_mem2 rfl rfl) hl2 ?_; intro ta tn tc w11 S11; have z1 := (S11.blk 1 rfl).cell 1 rfl; have zf := (S11.blk 1 rfl).free)
    have S3 := (S11.sel [1, 2, 0, 3]).set 1 (.slice ta tn tc)
    go_roundw
    case rel => exact ⟨k + 1, _, _, _, _, _, _, by omega, by go_num, by rw [T1.out, T2.out]; exact S3⟩
    case measure => simp [intOf]; omega

set_option maxHeartbeats 4000000 in
set_option maxRecDepth 100000 in
theorem emptyTable_any (n : Nat) (w : World) (hn : n ≤ 12) (hn1 : 1 ≤ n) : Calls Tryd.prog 10 #[.int .i64 (n : Nat)] w (MakesC tabE (emptyT n, 0) w) := by
  have S := (Star.nil w).alloc (cs := #[.slice none 0 0, .slice none 0 0]) (ty := 27)
  have HW := Lib.hid (fun w' => within_kis true (n : Int) 1 12 w' (within_eq ⟨by omega, by omega⟩))
  have HE := Lib.hid (fun w' => emptyT_any n w' hn hn1)
  go_enter Tryd.func10, Tryd.ntmps10
  go_wp2_with fail
  generalize hW : w.alloc _ = w0 at S ⊢
  obtain ⟨g2, hg2⟩ : ∃ g, g = w.heap.size := ⟨_, rfl⟩
  rw [← hg2] at S ⊢
  clear hW hg2
  refine (HW.out w0).mono ?_
  rintro e w1 ⟨rfl, rfl⟩
  go_wp2_with fail
  refine (HE.out _).mono ?_
  rintro e w3 ⟨cs, f, rfl, o, nd, lo, b3⟩
  obtain ⟨p1, p2, rfl, q1, q2⟩ := rd_Table (tabE.rd_ow o)
  obtain ⟨la, ln, lc, rfl⟩ := rd_slice q1
  obtain ⟨ra, rn, rc, rfl⟩ := rd_slice q2
  replace S := S.made o nd lo b3
  clear q1 q2 o nd lo b3 HE HW
  have A3 := S.blk 1 rfl
  have z0 := A3.cell 0 rfl
  have z1 := A3.cell 1 rfl
  have zf := A3.free
  clear A3
  dsimp only [id]
  go_wp2
  generalize hW : (w3.setCell _ _).setCell _ _ = w9
  have S9 : Star w w9 _ := hW ▸ ((S.sel [1, 0]).set 0 (.slice la ln lc)).set 1 (.slice ra rn rc)
  have A4 := S9.blk 0 rfl
  have r0 := A4.cell 0 rfl
  have r1 := A4.cell 1 rfl
  exact bodyPost_ret (v := .tuple #[.agg #[.slice la ln lc, .slice ra rn rc], .int .i64 0]) (by simp [results, Tryd.results10, go_sem, r0, r1]) rfl (Star.done (x := (emptyT n, (0 : Int))) (S9.sel [1]))

set_option maxHeartbeats 4000000 in
set_option maxRecDepth 100000 in
theorem turnedExits_any (v : Value) (l : List Ext) (B : Nat) (w : World) (hB : B ≤ w.heap.size) (h : exitsE.rd w B [v] l) (hl : ∀ e, e ∈ l → exitOk 12 e) (hn : l.length ≤ 12) :
    Calls Tryd.prog 23 #[v] w (Makes exitsE id (l.map flipE) w) := by
  obtain ⟨a, cap, rfl, h1, h2, -, h4⟩ := rd_exitsE h
  obtain ⟨n, hn'⟩ : ∃ n, n = l.length := ⟨_, rfl⟩
  rw [← hn'] at h4 h1 hn ⊢
  have HN := Lib.hid hn'; have H4 := Lib.hid h4; have HL := Lib.hid hl
  clear hn' h4 hl h
  have S := ((Star.nil w).alloc (cs := #[]) (ty := 53)).lit0 (α := Ext) (E := exitE)
  go_enter Tryd.func23, Tryd.ntmps23
  go_wp2
  generalize hW : w.alloc _ = w0 at S ⊢
  clear hW
  go_loopw [3, 5, 9] (fun vl _ vk wr => ∃ (k : Nat) (v : Value), k ≤ n ∧ vl = v ∧ vk = .int .i64 k ∧ Star w wr [oE exitsE [v] ((l.take k).map flipE)]) (fun _ _ vk _ => n - (intOf vk).toNat)
  case atStart => exact ⟨0, _, Nat.zero_le _, rfl, rfl, S⟩
  case round =>
    clear S
    obtain ⟨k, v, hk, rfl, rfl, S⟩ := hrel
    obtain ⟨va, vn, vc, rfl⟩ := S.slc 0 rfl
    by_cases hkn : k < n
    case neg =>
      obtain rfl : k = n := by omega
      have ht : l.take k = l := List.take_of_length_le (by rw [HN.out]; exact Nat.le_refl _)
      rw [ht] at S
      clear ht
      go_wp2
      go_ret
      exact S.done1
    have hkl : k < l.length := by rw [← HN.out]; exact hkn
    obtain ⟨xb, xo, rfl, -, ⟨c0, c1⟩, -⟩ := H4.out k hkn
    have c0 := (S.below.cell (World.block_lt_of_cell? w _ c0)).trans c0
    have c1 := (S.below.cell (World.block_lt_of_cell? w _ c1)).trans c1
    have hok := HL.out _ (mem_getDE hkl)
    have hst : (l.take (k + 1)).map flipE = (l.take k).map flipE ++ [flipE (l[k]?.getD default)] := take_map_succ default flipE l k hkl
    have hlm : ((l.take k).map flipE).length ≤ 1000000000000 := by rw [List.length_map, List.length_take]; omega
    obtain ⟨⟨s, t⟩, he⟩ : ∃ e, e = l[k]?.getD default := ⟨_, rfl⟩
    rw [← he] at c0 c1 hok hst
    simp only at c0 c1
    have hs : -1 ≤ s ∧ s ≤ 1 := by unfold exitOk at hok; simp only at hok; omega
    have wn : IntKind.i64.wrap (-s) = -s := IntWalk.i64_in _ ⟨by omega, by omega⟩
    have hok2 : exitOk 12 (⟨-s, t⟩ : Ext) := flipE_ok hok
    have hst2 : (l.take (k + 1)).map flipE = (l.take k).map flipE ++ [⟨-s, t⟩] := hst
    have HST := Lib.hid hst2; have HOK := Lib.hid hok2
    clear hst hst2 hok hok2 he hkl
    have SZ := S.alloc (cs := #[.int .i64 (-s), .int .i64 t]) (ty := 53)
    go_upto_region 6 with fail
    generalize hW : wr.alloc _ = w5 at SZ ⊢
    obtain ⟨g5, hg5⟩ : ∃ g, g = wr.heap.size := ⟨_, rfl⟩
    rw [← hg5] at SZ ⊢
    clear hW hg5
    have z0 := (SZ.blk 0 rfl).cell 0 rfl
    have z1 := (SZ.blk 0 rfl).cell 1 rfl
    have SB := ((SZ.alloc (cs := #[.int .i64 (-s), .int .i64 t]) (ty := 53)).exit HOK.out (by omega)).sel [3, 0]
    go_wp2_with (at_builtin; refine st1_ExitS SB rfl rfl rfl rfl cell_a1 (one_mem2 rfl rfl) hlm ?_; intro ta tn tc w11 S11)
    go_roundw
    case rel => exact ⟨k + 1, _, by omega, rfl, by go_num, by rw [HST.out]; exact S11⟩
    case measure => simp [intOf]; omega

set_option maxHeartbeats 4000000 in
set_option maxRecDepth 100000 in
theorem l03Exits_yes (va vb : Value) (l : List Ext) (B C : Nat) (w : World) (ha : exitsE.rd w B [va] l) (hb : exitsE.rd w C [vb] l) :
    Calls Tryd.prog 40 #[va, vb] w (Gives (.bool true) w) := by
  obtain ⟨a, ca, rfl, a1, a2, -, a4⟩ := rd_exitsE ha
  obtain ⟨b, cb, rfl, b1, b2, -, b4⟩ := rd_exitsE hb
  clear ha hb
  obtain ⟨n, hn⟩ : ∃ n, n = l.length := ⟨_, rfl⟩
  rw [← hn] at a4 a1 b4 b1 ⊢
  have H4 := Lib.hid a4; have K4 := Lib.hid b4
  clear a4 b4 hn
  go_enter Tryd.func40, Tryd.ntmps40
  go_wp2
  go_loopw [5] (fun i wr => ∃ k : Nat, k ≤ n ∧ i = .int .i64 k ∧ Below w.heap.size w wr) (fun i _ => n - (intOf i).toNat)
  case atStart => exact ⟨0, by omega, rfl, Below.refl _ _⟩
  case round =>
    obtain ⟨k, hk, rfl, hB⟩ := hrel
    by_cases hlt : k < n
    · obtain ⟨p, o, rfl, -, ⟨hp0, hp1⟩, -⟩ := H4.out k hlt
      obtain ⟨p', o', rfl, -, ⟨hq0, hq1⟩, -⟩ := K4.out k hlt
      have p0 := (hB.cell (World.block_lt_of_cell? w _ hp0)).trans hp0
      have p1 := (hB.cell (World.block_lt_of_cell? w _ hp1)).trans hp1
      have q0 := (hB.cell (World.block_lt_of_cell? w _ hq0)).trans hq0
      have q1 := (hB.cell (World.block_lt_of_cell? w _ hq1)).trans hq1
      have g1 : p < wr.heap.size := World.block_lt_of_cell? wr _ p0
      have g2 : p' < wr.heap.size := World.block_lt_of_cell? wr _ q0
      have st : Tryd.prog.stoodInHeld 53 = false := by kernel_rfl
      have sg : Tryd.prog.eqGuardType Tryd.prog.depth 53 = false := by kernel_rfl
      clear hp0 hp1 hq0 hq1
      generalize l[k]?.getD default = x at *
      have e0 : (x.side == x.side) = true := by simp
      have e1 : (x.to == x.to) = true := by simp
      go_wp2
      go_quiet (fail)
      go_wp2
      go_roundw
      case rel => exact ⟨k + 1, by omega, by go_num, below_drewN hB _⟩
      case measure => simp [intOf]; omega
    · obtain rfl : k = n := by omega
      go_wp2
      go_ret
      exact ⟨rfl, hB⟩

set_option maxHeartbeats 4000000 in
set_option maxRecDepth 100000 in
theorem sameTable_yes (x : Table) (cx cy : List Value) (B C : Nat) (w : World) (hB : B ≤ w.heap.size) (hC : C ≤ w.heap.size) (ha : tabE.rd w B cx x) (hb : tabE.rd w C cy x) :
    Calls Tryd.prog 12 #[.agg cx.toArray, .agg cy.toArray] w (Gives (.bool true) w) := by
  obtain ⟨v1, v2, rfl, h1, h2⟩ := rd_Table ha
  obtain ⟨u1, u2, rfl, j1, j2⟩ := rd_Table hb
  have HL := Lib.hid (fun w' (bl : Below w.heap.size w w') => l03Exits_yes v1 u1 x.left B C w' (exitsE.rd_of (bl.mono hB) h1) (exitsE.rd_of (bl.mono hC) j1))
  have HR := Lib.hid (fun w' (bl : Below w.heap.size w w') => l03Exits_yes v2 u2 x.right B C w' (exitsE.rd_of (bl.mono hB) h2) (exitsE.rd_of (bl.mono hC) j2))
  obtain ⟨a1, n1, c1, rfl⟩ := rd_slice h1
  obtain ⟨a2, n2, c2, rfl⟩ := rd_slice h2
  obtain ⟨b1, m1, d1, rfl⟩ := rd_slice j1
  obtain ⟨b2, m2, d2, rfl⟩ := rd_slice j2
  clear ha hb h1 h2 j1 j2
  have S := ((Star.nil w).alloc (cs := #[.slice a1 n1 c1, .slice a2 n2 c2]) (ty := 27)).alloc (cs := #[.slice b1 m1 d1, .slice b2 m2 d2]) (ty := 27)
  rw [World.size_alloc] at S
  go_enter Tryd.func12, Tryd.ntmps12
  go_wp2_with fail
  generalize hW : (w.alloc _).alloc _ = w0 at S ⊢
  obtain ⟨g2, hg2⟩ : ∃ g, g = w.heap.size := ⟨_, rfl⟩
  rw [← hg2] at S ⊢
  obtain ⟨g3, hg3⟩ : ∃ g, g = g2 + 1 := ⟨_, rfl⟩
  rw [← hg3] at S ⊢
  clear hW hg2 hg3
  have HS := Lib.hid S
  have key : Calls Tryd.prog 24 #[.pointer (some ⟨g2, 0, none⟩), .pointer (some ⟨g3, 0, none⟩)] w0 (Gives (.bool true) w0) := by
    have x0 := (S.blk 1 rfl).cell 0 rfl
    have x1 := (S.blk 1 rfl).cell 1 rfl
    have y0 := (S.blk 0 rfl).cell 0 rfl
    have y1 := (S.blk 0 rfl).cell 1 rfl
    have gl1 := (S.blk 1 rfl).lt
    have gl2 := (S.blk 0 rfl).lt
    have hov := cell_over w0
    clear S
    go_enter Tryd.func24, Tryd.ntmps24
    go_wp2
    refine wp_region_over (by kernel_rfl) (by kernel_rfl) ?_
    go_big_quiet_step (fail)
    go_big_quiet_step (fail)
    go_big_quiet_step (fail)
    go_big_quiet_step (fail)
    go_big_quiet_step (fail)
    go_big_quiet_step (fail)
    go_big_quiet_step (fail)
    go_big_quiet_step (fail)
    go_big_quiet_step ((go_at_call 40; exact calls_over (HL.out _ (HS.out.below.trans ((below_over w0 _).mono HS.out.below.size)))))
    go_big_quiet_step (fail)
    go_big_quiet_step (fail)
    go_big_quiet_step (fail)
    go_big_quiet_step (fail)
    go_big_quiet_step (fail)
    go_big_quiet_step (fail)
    go_big_quiet_step (fail)
    go_big_quiet_step (fail)
    go_big_quiet_step (fail)
    go_big_quiet_step ((go_at_call 40; exact calls_over (HR.out _ (HS.out.below.trans ((below_over w0 _).mono HS.out.below.size)))))
    go_big_quiet_step (fail)
    go_big_quiet_step (fail)
    refine wpQuiet_nil ?_
    intro w5 hw5
    go_wp2
    go_ret
    exact ⟨rfl, hw5⟩
  refine key.mono ?_
  rintro e w1 ⟨rfl, b1⟩
  go_wp2
  go_ret
  exact ⟨rfl, (HS.out.step b1).below⟩

set_option maxHeartbeats 4000000 in
set_option maxRecDepth 100000 in
theorem turnTable_any (n : Nat) (x : Table) (cs : List Value) (B : Nat) (w : World) (hB : B ≤ w.heap.size) (h : tabE.rd w B cs x) (hx : TabOk n x) (hn : n ≤ 12) :
    Calls Tryd.prog 11 #[.agg cs.toArray] w (MakesC tabE (turnT x, 0) w) := by
  have HV := Lib.hid (fun w' (bl : Below w.heap.size w w') => validTable_yes n x cs B w' (Nat.le_trans hB bl.size) (tabE.rd_of (bl.mono hB) h) hx hn)
  obtain ⟨v1, v2, rfl, h1, h2⟩ := rd_Table h
  have HL := Lib.hid (fun w' (bl : Below w.heap.size w w') => turnedExits_any v1 x.left B w' (Nat.le_trans hB bl.size) (exitsE.rd_of (bl.mono hB) h1) (fun e he => by have := hx.le e he; unfold exitOk at this ⊢; omega) (by rw [hx.l]; exact hn))
  have HR := Lib.hid (fun w' (bl : Below w.heap.size w w') => turnedExits_any v2 x.right B w' (Nat.le_trans hB bl.size) (exitsE.rd_of (bl.mono hB) h2) (fun e he => by have := hx.re e he; unfold exitOk at this ⊢; omega) (by rw [hx.r]; exact hn))
  obtain ⟨a1, n1, c1, rfl⟩ := rd_slice h1
  obtain ⟨a2, n2, c2, rfl⟩ := rd_slice h2
  have S := ((Star.nil w).alloc (cs := #[.slice a1 n1 c1, .slice a2 n2 c2]) (ty := 27)).alloc (cs := #[.slice none 0 0, .slice none 0 0]) (ty := 27)
  rw [World.size_alloc] at S
  clear h h1 h2 hx
  go_enter Tryd.func11, Tryd.ntmps11
  go_wp2_with fail
  generalize hW : (w.alloc _).alloc _ = w0 at S ⊢
  obtain ⟨g1, hg1⟩ : ∃ g, g = w.heap.size := ⟨_, rfl⟩
  rw [← hg1] at S ⊢
  obtain ⟨g2, hg2⟩ : ∃ g, g = g1 + 1 := ⟨_, rfl⟩
  rw [← hg2] at S ⊢
  clear hW hg1 hg2
  refine (HV.out w0 S.below).mono ?_
  rintro e w1 ⟨rfl, b1⟩
  replace S := S.step b1
  clear b1 HV
  go_wp2
  refine wp_region_p [] 9 (by kernel_rfl) rfl ?_
  intro w5 b5
  replace S := S.step b5
  clear b5
  have x0 := (S.blk 1 rfl).cell 0 rfl
  have x1 := (S.blk 1 rfl).cell 1 rfl
  have gl1 := (S.blk 1 rfl).lt
  have hov := cell_over w5
  refine wpP_read 0 rfl rfl (by kernel_rfl) rfl (fun _ d _ _ _ h => by cases d <;> exact h) ?_
  go_big_quiet_step (fail)
  refine wpQuiet_nil ?_
  refine wpP_read 1 rfl rfl (by kernel_rfl) rfl (fun _ d _ _ _ h => by cases d <;> exact h) ?_
  go_big_quiet_step (fail)
  refine wpQuiet_nil ?_
  refine wpP_read 3 rfl rfl (by kernel_rfl) rfl (fun _ d _ _ _ h => by cases d <;> exact h) ?_
  go_big_quiet_step (fail)
  refine wpQuiet_nil ?_
  refine wpP_read 4 rfl rfl (by kernel_rfl) rfl (fun _ d _ _ _ h => by cases d <;> exact h) ?_
  go_big_quiet_step (fail)
  refine wpQuiet_nil ?_
  clear x0 x1 gl1 hov
  refine wpP_ready [2] (by kernel_rfl) (by decide) (AllP.cons rfl (fun w6 b6 K hK => ?_) AllP.nil)
  replace S := S.step b6
  go_simp
  go_at_call 23
  refine (HR.out w6 S.below).mono ?_
  rintro e w7 ⟨vr, fr, rfl, o1, nd1, lo1, c1'⟩
  obtain ⟨ra, rn, rc, rfl⟩ := ow_slice o1
  replace S := S.made o1 nd1 lo1 c1'
  dsimp only [id]
  try go_simp
  refine hK _ _ (.inr (leN.of_below b6.size b6.size c1')) ?_
  have N7 := Nat.le_trans b6.size c1'.size
  clear hK K o1 nd1 lo1 c1' b6 HR
  refine wpP_ready [5] (by kernel_rfl) (by decide) (AllP.cons rfl (fun w8 b8 K hK => ?_) AllP.nil)
  replace S := S.step b8
  have N8 := Nat.le_trans N7 b8.size
  go_simp
  go_at_call 23
  refine (HL.out w8 S.below).mono ?_
  rintro e w9 ⟨vl, fl, rfl, o1, nd1, lo1, c1'⟩
  obtain ⟨la, ln, lc, rfl⟩ := ow_slice o1
  replace S := S.made o1 nd1 lo1 c1'
  dsimp only [id]
  try go_simp
  refine hK _ _ (.inr (leN.of_below N8 N8 c1')) ?_
  have N9 := Nat.le_trans N8 c1'.size
  clear hK K o1 nd1 lo1 c1' b8 HL N7 N8
  refine wpP_pure 6 rfl rfl (by kernel_rfl) N9 (fun _ d _ _ _ h => by cases d <;> exact h) ?_
  go_big_quiet_step (fail)
  refine wpQuiet_nil ?_
  refine wpP_ready [7] (by kernel_rfl) (by decide) (AllP.cons rfl (fun wA bA K hK => ?_) AllP.nil)
  replace S := (S.step bA).sel [2, 1, 0]
  have NA := Nat.le_trans N9 bA.size
  have z0 := (S.blk 0 rfl).cell 0 rfl
  have z1 := (S.blk 0 rfl).cell 1 rfl
  have zf := (S.blk 0 rfl).free
  go_simp
  refine hK _ _ (.inl ⟨alone_of (by kernel_rfl), by simpa using NA⟩) ?_
  clear hK K z0 z1 zf bA N9
  generalize hW : (wA.setCell _ _).setCell _ _ = wB
  have S9 : Star w wB _ := hW ▸ ((S.set 0 (.slice ra rn rc)).set 1 (.slice la ln lc))
  have NB : w5.heap.size ≤ wB.heap.size := by rw [← hW]; simpa using NA
  clear hW NA S
  refine wpP_pure 8 rfl rfl (by kernel_rfl) NB (fun _ d _ _ _ h => by cases d <;> exact h) ?_
  go_big_quiet_step (fail)
  refine wpQuiet_nil ?_
  refine wpP_done (by kernel_rfl) (fun wC bC => ?_)
  replace S9 := S9.step bC
  have A4 := S9.blk 0 rfl
  have r0 := A4.cell 0 rfl
  have r1 := A4.cell 1 rfl
  go_wp2
  exact bodyPost_ret (v := .tuple #[.agg #[.slice ra rn rc, .slice la ln lc], .int .i64 0]) (by simp [results, Tryd.results11, go_sem, r0, r1]) rfl (tab_done2 (x := turnT x) (S9.sel [1, 2]))

end Go.Proofs.YtbiagkbjhdidjaaDoor
