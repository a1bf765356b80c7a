/-
  A table's text read back by the program: ReadTable.
-/
import Derived.Test.YtbiagkbjhdidjaaDoorTabRK
namespace Go.Proofs.YtbiagkbjhdidjaaDoor
open Go.RowKit

theorem tab_done {w0 w : World} {ps : List Ob} {v1 v2 : Value} {x : Table} {c : Int} (S : Star w0 w (oE exitsE [v1] x.left :: oE exitsE [v2] x.right :: ps)) :
    MakesC tabE (x, c) w0 (.returned (.tuple #[.agg #[v1, v2], .int .i64 c])) w := Star.done (x := (x, c)) (tab_ow S)

set_option maxHeartbeats 8000000 in
set_option maxRecDepth 100000 in
theorem readTable_any (n : Nat) (x : Table) (m : Int) (w : World) (hx : TabOk n x) (hn : n ≤ 12) (hM : MaxIsT m w.heap.size w) (hT : Pow10 w.heap.size w) :
    Calls Tryd.prog 7 #[.string (mkB (tableT x))] w (MakesC tabE (x, 0) w) := by
  obtain ⟨c1, c2⟩ := tableT_cut hx hn
  have hsz := tableT_size hx hn
  have HTR := Lib.hid (fun w' => Any.strings_TrimSuffix Tryd.lays102 (mkB (tableT x)) ⟨#[10]⟩ w' (by rw [mkB_size]; omega))
  rw [show (⟨(Lib.trimSuffix (mkB (tableT x)).data.toList (⟨#[10]⟩ : ByteArray).data.toList).toArray⟩ : ByteArray) = mkB (Lib.trimSuffix (tableT x) [10]) from rfl, c1] at HTR
  have hcl : (leftW ++ exsT x.left ++ 10 :: (rightW ++ exsT x.right)).length ≤ 200 := by
    have := Lib.trimSuffix_le (tableT x) [10]
    rw [c1] at this
    omega
  have HCU := Lib.hid (fun w' hm => Any.strings_Cut Tryd.lays145 (mkB (leftW ++ exsT x.left ++ 10 :: (rightW ++ exsT x.right))) ⟨#[10]⟩ m w' (by rw [mkB_size]; omega) hm)
  rw [show (mkB (leftW ++ exsT x.left ++ 10 :: (rightW ++ exsT x.right))).data.toList = leftW ++ exsT x.left ++ 10 :: (rightW ++ exsT x.right) from rfl, show (⟨#[10]⟩ : ByteArray).data.toList = [10] from rfl, c2] at HCU
  have HR1 := Lib.hid (fun w' (bl : Below w.heap.size w w') => readExits_any leftW (by decide) (by decide) x.left m w' (fun e he => allEx_mono hn (hx.le e he)) (by rw [hx.l]; exact hn) (by rw [hx.l]; exact hx.n1) (fun w'' b => hM w'' (bl.trans (b.mono bl.size))))
  have HR2 := Lib.hid (fun w' (bl : Below w.heap.size w w') => readExits_any rightW (by decide) (by decide) x.right m w' (fun e he => allEx_mono hn (hx.re e he)) (by rw [hx.r]; exact hn) (by rw [hx.r]; exact hx.n1) (fun w'' b => hM w'' (bl.trans (b.mono bl.size))))
  have HV := Lib.hid (fun w' cs B (hB : B ≤ w'.heap.size) (h : tabE.rd w' B cs x) => validTable_yes n x cs B w' hB h hx hn)
  have HTX := Lib.hid (fun w' cs B (bl : Below w.heap.size w w') (hB : B ≤ w'.heap.size) (h : tabE.rd w' B cs x) => tableText_any n x cs B w' hB h hx hn ((hT.step bl).up bl.size))
  obtain ⟨T, hTT⟩ : ∃ T, T = mkB (tableT x) := ⟨_, rfl⟩
  have hTs : T.size ≤ 200 := by rw [hTT, mkB_size]; exact hsz
  rw [← hTT] at HTR HTX ⊢
  obtain ⟨Y, hY⟩ : ∃ Y, Y = mkB (leftW ++ exsT x.left ++ 10 :: (rightW ++ exsT x.right)) := ⟨_, rfl⟩
  rw [← hY] at HTR HCU
  have HM := Lib.hid hM
  clear c1 c2 hsz hcl hM hT hx hTT hY
  have S := (Star.nil w).alloc (cs := #[.slice none 0 0, .slice none 0 0]) (ty := 27)
  go_enter Tryd.func7, Tryd.ntmps7
  go_wp2_with fail
  generalize hW : w.alloc _ = w0 at S ⊢
  obtain ⟨g2, hg2⟩ : ∃ g, g = w.heap.size := ⟨_, rfl⟩
  rw [← hg2] at S ⊢
  clear hW hg2
  refine (HTR.out w0).mono ?_
  rintro e w1 ⟨rfl, rfl⟩
  go_wp2_with fail
  refine (HCU.out _ (HM.out _ S.below)).mono ?_
  rintro e w1 ⟨rfl, k, rfl⟩
  replace S := S.step (below_drewN (Below.refl _ _) k)
  clear HTR HCU
  go_wp2_with fail
  refine (HR1.out _ S.below).mono ?_
  rintro e w3 ⟨v1, f1, rfl, o1, nd1, lo1, b1⟩
  obtain ⟨a1, n1, c1, rfl⟩ := ow_slice o1
  replace S := S.made o1 nd1 lo1 b1
  clear o1 nd1 lo1 b1 HR1
  go_wp2_with fail
  refine (HR2.out _ S.below).mono ?_
  rintro e w4 ⟨v2, f2, rfl, o2, nd2, lo2, b2⟩
  obtain ⟨a2, n2, c2, rfl⟩ := ow_slice o2
  replace S := S.made o2 nd2 lo2 b2
  clear o2 nd2 lo2 b2 HR2
  replace S := S.alloc (cs := #[.slice a1 n1 c1, .slice a2 n2 c2]) (ty := 27)
  go_wp2_with fail
  generalize hW : w4.alloc _ = w5 at S ⊢
  obtain ⟨g7, hg7⟩ : ∃ g, g = w4.heap.size := ⟨_, rfl⟩
  rw [← hg7] at S ⊢
  clear hW hg7
  have hrd : tabE.rd w5 w5.heap.size [.slice a1 n1 c1, .slice a2 n2 c2] x := (tab_ow (S.sel [2, 1])).rd 0 rfl
  have HRD := Lib.hid hrd
  clear hrd
  refine (HV.out w5 _ _ (Nat.le_refl _) HRD.out).mono ?_
  rintro e w6 ⟨rfl, b6⟩
  replace S := S.step b6
  have HRD2 := Lib.hid (tabE.rd_of (b6.mono (Nat.le_refl _)) HRD.out)
  have hle := b6.size
  have y0 := (S.blk 0 rfl).cell 0 rfl
  have y1 := (S.blk 0 rfl).cell 1 rfl
  go_wp2_with fail
  refine (HTX.out w6 _ _ S.below hle HRD2.out).mono ?_
  rintro e w7 ⟨rfl, b7⟩
  replace S := S.step b7
  clear y0 y1 HV HTX HRD HRD2 b6 b7 hle
  have y0 := (S.blk 0 rfl).cell 0 rfl
  have y1 := (S.blk 0 rfl).cell 1 rfl
  have A3 := S.blk 3 rfl
  have z0 := A3.cell 0 rfl
  have z1 := A3.cell 1 rfl
  have zf := A3.free
  have tA : (T.toList == T.toList) = true := by simp
  clear A3
  go_wp2
  generalize hW : (w7.setCell _ _).setCell _ _ = w9
  have S9 : Star w w9 _ := hW ▸ ((S.sel [3, 2, 1]).set 0 (.slice a1 n1 c1)).set 1 (.slice a2 n2 c2)
  have A4 := S9.blk 0 rfl
  have r0 := A4.cell 0 rfl
  have r1 := A4.cell 1 rfl
  exact bodyPost_ret (v := .tuple #[.agg #[.slice a1 n1 c1, .slice a2 n2 c2], .int .i64 0]) (by simp [results, Tryd.results7, go_sem, r0, r1]) rfl (tab_done (S9.sel [1, 2]))

set_option maxHeartbeats 4000000 in
set_option maxRecDepth 100000 in
theorem joinTables_any (n : Nat) (x y : Table) (cx cy : List Value) (B : Nat) (w : World) (hB : B ≤ w.heap.size) (hx : tabE.rd w B cx x) (hy : tabE.rd w B cy y) (kx : TabOk n x) (ky : TabOk n y) (hn : n ≤ 12) :
    Calls Tryd.prog 9 #[.agg cx.toArray, .agg cy.toArray] w (MakesC tabE (joinedT x y, 0) w) := by
  have HVX := Lib.hid (fun w' (bl : Below w.heap.size w w') => validTable_yes n x cx B w' (Nat.le_trans hB bl.size) (tabE.rd_of (bl.mono hB) hx) kx hn)
  have HVY := Lib.hid (fun w' (bl : Below w.heap.size w w') => validTable_yes n y cy B w' (Nat.le_trans hB bl.size) (tabE.rd_of (bl.mono hB) hy) ky hn)
  have HJ := Lib.hid (fun w' (bl : Below w.heap.size w w') => joined_any n x y cx cy B w' (Nat.le_trans hB bl.size) (tabE.rd_of (bl.mono hB) hx) (tabE.rd_of (bl.mono hB) hy) kx ky hn)
  obtain ⟨v1, v2, rfl, h1, h2⟩ := rd_Table hx
  obtain ⟨u1, u2, rfl, j1, j2⟩ := rd_Table hy
  obtain ⟨a1, c1, rfl, -, -, -, -⟩ := rd_exitsE h1
  obtain ⟨a2, c2, rfl, -, -, -, -⟩ := rd_exitsE h2
  obtain ⟨b1, d1, rfl, -, -, -, -⟩ := rd_exitsE j1
  obtain ⟨b2, d2, rfl, -, -, -, -⟩ := rd_exitsE j2
  rw [kx.l, kx.r] at HVX HJ ⊢
  rw [ky.l, ky.r] at HVY HJ ⊢
  have S := (((Star.nil w).alloc (cs := #[.slice a1 n c1, .slice a2 n c2]) (ty := 27)).alloc (cs := #[.slice b1 n d1, .slice b2 n d2]) (ty := 27)).alloc (cs := #[.slice none 0 0, .slice none 0 0]) (ty := 27)
  rw [World.size_alloc, World.size_alloc] at S
  clear hx hy h1 h2 j1 j2 kx ky
  go_enter Tryd.func9, Tryd.ntmps9
  go_wp2_with fail
  generalize hW : ((w.alloc _).alloc _).alloc _ = w0 at S ⊢
  obtain ⟨g2, hg2⟩ : ∃ g, g = w.heap.size := ⟨_, rfl⟩
  rw [← hg2] at S ⊢
  obtain ⟨g3, hg3⟩ : ∃ g, g = g2 + 1 := ⟨_, rfl⟩
  rw [← hg3] at S ⊢
  obtain ⟨g4, hg4⟩ : ∃ g, g = g3 + 1 := ⟨_, rfl⟩
  rw [← hg4] at S ⊢
  clear hW hg2 hg3 hg4
  refine (HVX.out w0 S.below).mono ?_
  rintro e w1 ⟨rfl, b1⟩
  replace S := S.step b1
  have y0 := (S.blk 1 rfl).cell 0 rfl
  have y1 := (S.blk 1 rfl).cell 1 rfl
  go_wp2_with fail
  refine (HVY.out w1 S.below).mono ?_
  rintro e w2 ⟨rfl, b2⟩
  replace S := S.step b2
  clear y0 y1 b1 b2 HVX HVY
  have x0 := (S.blk 2 rfl).cell 0 rfl
  have x1 := (S.blk 2 rfl).cell 1 rfl
  have y0 := (S.blk 1 rfl).cell 0 rfl
  have y1 := (S.blk 1 rfl).cell 1 rfl
  go_wp2_with fail
  refine (HJ.out w2 S.below).mono ?_
  rintro e w3 ⟨cs, f, rfl, o, nd, lo, b3⟩
  clear x0 x1 y0 y1
  obtain ⟨p1, p2, rfl, q1, q2⟩ := rd_Table (tabE.rd_ow o)
  obtain ⟨la, ln, lc, rfl⟩ := rd_slice q1
  obtain ⟨ra, rn, rc, rfl⟩ := rd_slice q2
  replace S := S.made o nd lo b3
  clear q1 q2 o nd lo b3 HJ
  have A3 := S.blk 1 rfl
  have z0 := A3.cell 0 rfl
  have z1 := A3.cell 1 rfl
  have zf := A3.free
  clear A3
  dsimp only [id]
  go_wp2
  generalize hW : (w3.setCell _ _).setCell _ _ = w9
  have S9 : Star w w9 _ := hW ▸ ((S.sel [1, 0]).set 0 (.slice la ln lc)).set 1 (.slice ra rn rc)
  have A4 := S9.blk 0 rfl
  have r0 := A4.cell 0 rfl
  have r1 := A4.cell 1 rfl
  exact bodyPost_ret (v := .tuple #[.agg #[.slice la ln lc, .slice ra rn rc], .int .i64 0]) (by simp [results, Tryd.results9, go_sem, r0, r1]) rfl (Star.done (x := (joinedT x y, (0 : Int))) (S9.sel [1]))

end Go.Proofs.YtbiagkbjhdidjaaDoor
