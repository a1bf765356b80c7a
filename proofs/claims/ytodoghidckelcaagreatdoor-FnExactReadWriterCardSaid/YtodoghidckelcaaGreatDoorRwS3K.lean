/-
  Lists of numbers and moves read by the reference.
-/
import Derived.Test.YtodoghidckelcaaGreatDoorRwS2K
namespace Go.Proofs.YtodoghidckelcaaGreatDoor
open Go.RowKit Go.PlainAid

theorem drop_take_snoc (l : List (List UInt8)) (i : Nat) (h1 : 1 ≤ i) (hi : i < l.length) : (l.drop 1).take i = (l.drop 1).take (i - 1) ++ [l.getD i []] := by
  obtain ⟨k, rfl⟩ : ∃ k, i = k + 1 := ⟨i - 1, by omega⟩
  have hk : k < (l.drop 1).length := by rw [List.length_drop]; omega
  rw [List.take_succ_eq_append_getElem hk, Nat.add_sub_cancel]
  congr 2
  have e : (l.drop 1)[k]? = some (l.getD (k + 1) []) := by
    rw [List.getElem?_drop, Nat.add_comm 1 k, List.getD_eq_getElem?_getD, List.getElem?_eq_getElem hi]
    rfl
  rw [List.getElem?_eq_getElem hk] at e
  exact Option.some.inj e

set_option maxHeartbeats 4000000 in
set_option maxRecDepth 100000 in
theorem l01Numbers_any (v : Value) (l : List (List UInt8)) (B : Nat) (w : World) (h : strsE.rd w B [v] (l.map mkB)) (hB : B ≤ w.heap.size) (h1 : 1 ≤ l.length) (hl : l.length ≤ 2000000) (hx : ∀ x, x ∈ l → x.length ≤ 1048576) :
    Calls Tryz.prog 24 #[v, .int .i64 1] w (fun e w' => ∃ (u : Value) (L : List Int) (rb : Bool), e = .returned (.tuple #[u, .bool rb]) ∧ Hid (rb = true ↔ ∀ x, x ∈ l.drop 1 → num9 x ≠ -1) ∧ Hid (rb = true → L = (l.drop 1).map num9) ∧ Star w w' [oE intsE [u] L]) := by
  obtain ⟨jb, jo, jn, jc, rfl, hjn, hjb, hjc⟩ := strs_cellsR h (by rw [List.length_map]; omega)
  rw [List.length_map] at hjn hjc
  rw [← hjn] at h1 hl
  have HJN := Lib.hid hjn
  have HJC := Lib.hid (fun i (hi : i < l.length) => show w.cell? ⟨jb, jo + i, none⟩ = some (.string (mkB (l.getD i []))) from by
    rw [hjc i hi, getD_map l i hi])
  have HX := Lib.hid hx
  have hjw : jb < w.heap.size := Nat.lt_of_lt_of_le hjb hB
  clear h hjn hjc hx hB hjb
  have S := ((Star.nil w).alloc (cs := #[]) (ty := 2)).lit0 (α := Int) (E := intE)
  go_enter Tryz.func24, Tryz.ntmps24
  go_wp2
  generalize hW : w.alloc _ = w0 at S ⊢
  clear hW
  obtain ⟨g, hg⟩ : ∃ g, g = w.heap.size := ⟨_, rfl⟩
  rw [← hg] at S ⊢
  clear hg
  go_loopw [6, 7] (fun vo vi wr => ∃ (i : Nat) (v : Value), 1 ≤ i ∧ i ≤ jn ∧ vo = v ∧ vi = .int .i64 i ∧ Hid (∀ x, x ∈ (l.drop 1).take (i - 1) → num9 x ≠ -1) ∧ Star w wr [oE intsE [v] (((l.drop 1).take (i - 1)).map num9)]) (fun _ vi _ => jn - (intOf vi).toNat)
  case atStart => exact ⟨1, _, by omega, by omega, rfl, rfl, Lib.hid (by simp), S⟩
  case round =>
    clear S
    obtain ⟨i, v, hi1, hi, rfl, rfl, HG, S⟩ := hrel
    obtain ⟨sa, sn, sc, rfl⟩ := S.slc 0 rfl
    by_cases hlt : i < jn
    case neg =>
      obtain rfl : i = jn := by omega
      have ht : (l.drop 1).take (i - 1) = l.drop 1 := List.take_of_length_le (by rw [List.length_drop, ← HJN.out]; exact Nat.le_refl _)
      rw [ht] at S HG
      clear ht
      go_wp2
      go_ret2
      exact ⟨_, _, _, rfl, Lib.hid (by have := HG.out; exact ⟨fun _ => this, fun _ => rfl⟩), Lib.hid (fun _ => rfl), S⟩
    have hil : i < l.length := by rw [← HJN.out]; exact hlt
    have hst := drop_take_snoc l i hi1 hil
    have x1 := (S.below.cell hjw).trans (HJC.out i hil)
    obtain ⟨x, hx⟩ : ∃ x, x = l.getD i [] := ⟨_, rfl⟩
    have hxm : x ∈ l := by rw [hx]; exact getD_mem hil
    have hxd : x ∈ l.drop 1 := by
      refine List.mem_of_mem_take (i := i) ?_
      rw [hst, ← hx]; simp
    have hxl := HX.out x hxm
    rw [← hx] at hst x1
    have HNU := Lib.hid (fun w' => l01Number_any x w' hxl)
    obtain ⟨X, hX⟩ : ∃ X, X = mkB x := ⟨_, rfl⟩
    rw [← hX] at x1 HNU
    have hll : (((l.drop 1).take (i - 1)).map num9).length ≤ 1000000000000 := by rw [List.length_map, List.length_take]; omega
    have i0 : (0 : Int) ≤ (i : Int) := by omega
    have i2 : (i : Int) < (jn : Int) := by omega
    by_cases hg : num9 x = -1
    · rw [show decide (num9 x ≠ -1) = false from decide_eq_false (fun h => h hg)] at HNU
      have HF := Lib.hid (show ¬ ∀ y, y ∈ l.drop 1 → num9 y ≠ -1 from fun h => h x hxd hg)
      clear hil hst hx hxm hxd hxl hX hg
      go_wp2_with fail
      refine (HNU.out wr).mono ?_
      rintro e w5 ⟨rfl, rfl⟩
      go_wp2
      go_ret2
      exact ⟨_, _, _, rfl, Lib.hid ⟨fun h => (by cases h), fun h => absurd h HF.out⟩, Lib.hid (fun h => by cases h), S⟩
    · have e9 : v9 x = num9 x := by unfold v9; rw [if_neg hg]
      rw [show decide (num9 x ≠ -1) = true from decide_eq_true hg, e9] at HNU
      have hrg := v9_range x
      rw [e9] at hrg
      have hgg : ∀ y, y ∈ (l.drop 1).take (i + 1 - 1) → num9 y ≠ -1 := by
        intro y hy
        rw [Nat.add_sub_cancel, hst] at hy
        rcases List.mem_append.1 hy with hy | hy
        · exact HG.out y hy
        · rw [List.mem_singleton.1 hy]; exact hg
      have hst2 : ((l.drop 1).take (i + 1 - 1)).map num9 = ((l.drop 1).take (i - 1)).map num9 ++ [num9 x] := by rw [Nat.add_sub_cancel, hst, List.map_append]; rfl
      obtain ⟨N, hN⟩ : ∃ N, N = num9 x := ⟨_, rfl⟩
      rw [← hN] at HNU hrg hst2
      have HST := Lib.hid hst2
      have HG2 := Lib.hid hgg
      have HRG := Lib.hid hrg
      clear hil hst hx hxm hxd hxl hX hg e9 hrg hgg hst2 hN
      go_wp2_with fail
      clear x1
      refine (HNU.out wr).mono ?_
      rintro e w5 ⟨rfl, hw⟩
      subst hw
      have SA := ((S.alloc (cs := #[.int .i64 N]) (ty := 2)).int (x := N) (by have := HRG.out; omega)).sel [2, 0]
      go_wp2_with (at_builtin; refine st1_Int64S SA rfl rfl rfl rfl cell_a1 (one_mem rfl) hll ?_; intro ta tn tc w11 S11)
      rw [← HST.out] at S11
      go_roundw
      case rel => exact ⟨i + 1, _, by omega, by omega, rfl, by go_num, HG2, S11⟩
      case measure => simp [intOf]; omega

set_option maxHeartbeats 4000000 in
set_option maxRecDepth 100000 in
theorem l02Read_any (u : List UInt8) (w : World) (hu : u.length ≤ 1048576) :
    Calls Tryz.prog 25 #[.string (mkB u)] w (Gives (.tuple #[.agg #[.int .i64 (readSM u).1.to, .int .i64 (readSM u).1.dir], .bool (readSM u).2]) w) := by
  obtain ⟨T, hT⟩ : ∃ T, T = mkB u := ⟨_, rfl⟩
  have hTs : T.size = u.length := by rw [hT, mkB_size]
  have hbT := get_bt T
  have S := (Star.nil w).alloc (cs := #[.int .i64 0, .int .i64 0]) (ty := 54)
  by_cases c1 : u = yesL
  · have hr : readSM u = (⟨-1, 0⟩, true) := by unfold readSM; rw [if_pos c1]
    have tY : (T.toList == [121, 101, 115]) = true := by rw [hT, c1, mkB_toList]; rfl
    rw [hr, ← hT]
    clear hr hT c1
    go_enter Tryz.func25, Tryz.ntmps25
    go_upto_region 1 with fail
    generalize hW : w.alloc _ = w0 at S ⊢
    clear hW
    obtain ⟨g, hg⟩ : ∃ g, g = w.heap.size := ⟨_, rfl⟩
    rw [← hg] at S ⊢
    clear hg
    have a0 := (S.blk 0 rfl).cell 0 rfl
    have a1 := (S.blk 0 rfl).cell 1 rfl
    have af := (S.blk 0 rfl).free
    go_wp2
    generalize hW : (w0.setCell _ _).setCell _ _ = w1
    have S1 : Star w w1 [oB g [.int .i64 (-1), .int .i64 0] 54] := hW ▸ (S.set 0 _).set 1 _
    have q0 := (S1.blk 0 rfl).cell 0 rfl
    have q1 := (S1.blk 0 rfl).cell 1 rfl
    exact bodyPost_ret (v := .tuple #[.agg #[.int .i64 (-1), .int .i64 0], .bool true]) (by simp [results, Tryz.results25, go_sem, q0, q1]) rfl ⟨rfl, S1.below⟩
  have tY : (T.toList == [121, 101, 115]) = false := by rw [hT, mkB_toList, beq_eq_false_iff_ne]; exact c1
  by_cases c2 : u = noL
  · have hr : readSM u = (⟨-2, 0⟩, true) := by unfold readSM; rw [if_neg c1, if_pos c2]
    have tN : (T.toList == [110, 111]) = true := by rw [hT, c2, mkB_toList]; rfl
    rw [hr, ← hT]
    clear hr hT c1 c2
    go_enter Tryz.func25, Tryz.ntmps25
    go_upto_region 1 with fail
    generalize hW : w.alloc _ = w0 at S ⊢
    clear hW
    obtain ⟨g, hg⟩ : ∃ g, g = w.heap.size := ⟨_, rfl⟩
    rw [← hg] at S ⊢
    clear hg
    have a0 := (S.blk 0 rfl).cell 0 rfl
    have a1 := (S.blk 0 rfl).cell 1 rfl
    have af := (S.blk 0 rfl).free
    go_wp2
    generalize hW : (w0.setCell _ _).setCell _ _ = w1
    have S1 : Star w w1 [oB g [.int .i64 (-2), .int .i64 0] 54] := hW ▸ (S.set 0 _).set 1 _
    have q0 := (S1.blk 0 rfl).cell 0 rfl
    have q1 := (S1.blk 0 rfl).cell 1 rfl
    exact bodyPost_ret (v := .tuple #[.agg #[.int .i64 (-2), .int .i64 0], .bool true]) (by simp [results, Tryz.results25, go_sem, q0, q1]) rfl ⟨rfl, S1.below⟩
  have tN : (T.toList == [110, 111]) = false := by rw [hT, mkB_toList, beq_eq_false_iff_ne]; exact c2
  by_cases c3 : u = []
  · have hr : readSM u = (⟨0, 0⟩, false) := by unfold readSM; rw [if_neg c1, if_neg c2, if_pos c3]
    have tE : (T.toList == []) = true := by rw [hT, c3, mkB_toList]; rfl
    rw [hr, ← hT]
    clear hr hT c1 c2 c3
    go_enter Tryz.func25, Tryz.ntmps25
    go_upto_region 1 with fail
    generalize hW : w.alloc _ = w0 at S ⊢
    clear hW
    obtain ⟨g, hg⟩ : ∃ g, g = w.heap.size := ⟨_, rfl⟩
    rw [← hg] at S ⊢
    clear hg
    have a0 := (S.blk 0 rfl).cell 0 rfl
    have a1 := (S.blk 0 rfl).cell 1 rfl
    have af := (S.blk 0 rfl).free
    go_wp2
    generalize hW : (w0.setCell _ _).setCell _ _ = w1
    have S1 : Star w w1 [oB g [.int .i64 (0), .int .i64 0] 54] := hW ▸ (S.set 0 _).set 1 _
    have q0 := (S1.blk 0 rfl).cell 0 rfl
    have q1 := (S1.blk 0 rfl).cell 1 rfl
    exact bodyPost_ret (v := .tuple #[.agg #[.int .i64 (0), .int .i64 0], .bool false]) (by simp [results, Tryz.results25, go_sem, q0, q1]) rfl ⟨rfl, S1.below⟩
  have tE : (T.toList == []) = false := by rw [hT, mkB_toList, beq_eq_false_iff_ne]; exact c3
  have hu0 : 1 ≤ u.length := by cases u with | nil => exact absurd rfl c3 | cons a l => simp
  obtain ⟨j, hj⟩ : ∃ j, j + 1 = u.length := ⟨u.length - 1, by omega⟩
  have hr : readSM u = (⟨v9 (u.take (u.length - 1)), dirS (lastD u)⟩, decide (num9 (u.take (u.length - 1)) ≠ -1) && dirOk (lastD u)) := by unfold readSM v9; rw [if_neg c1, if_neg c2, if_neg c3]
  have e1 : T.extract 0 j = mkB (u.take (u.length - 1)) := by rw [hT, ext_take _ _ (by omega)]; congr 2; omega
  have HNU := Lib.hid (fun w' => show Calls Tryz.prog 47 #[.string (T.extract 0 j)] w' (Keeps (.tuple #[.int .i64 (v9 (u.take (u.length - 1))), .bool (decide (num9 (u.take (u.length - 1)) ≠ -1))]) w') from by
    rw [e1]
    exact l01Number_any (u.take (u.length - 1)) w' (by rw [List.length_take]; omega))
  have hbj : bt T j = (((lastD u).toNat : Nat) : Int) := by
    unfold lastD
    rw [hT, show u.length - 1 = j by omega]
    exact bt_mkB u j (by omega)
  rw [hr, ← hT]
  obtain ⟨N, hN⟩ : ∃ N, N = v9 (u.take (u.length - 1)) := ⟨_, rfl⟩
  obtain ⟨ok, hok⟩ : ∃ b, b = decide (num9 (u.take (u.length - 1)) ≠ -1) := ⟨_, rfl⟩
  obtain ⟨c, hc⟩ : ∃ c, c = lastD u := ⟨_, rfl⟩
  rw [← hN, ← hok] at HNU
  rw [← hN, ← hok, ← hc]
  rw [← hc] at hbj
  obtain ⟨RV, hRV⟩ : ∃ v, v = (Value.tuple #[.agg #[.int .i64 (N), .int .i64 (dirS c)], .bool (ok && dirOk c)]) := ⟨_, rfl⟩
  have hTj : T.size = j + 1 := by omega
  have HTj := Lib.hid hTj
  have tj : IntKind.i64.wrap ((T.size : Int) - 1) = (j : Int) := by rw [IntWalk.i64_in _ ⟨by omega, by omega⟩]; omega
  have i1 : (0 : Int) ≤ (j : Int) := by omega
  have i2 : (j : Int) ≤ (T.size : Int) := by omega
  have i3 : (j : Int) < (T.size : Int) := by omega
  rw [← hRV]
  have HRV := Lib.hid hRV; have HBJ := Lib.hid hbj
  clear hr hT c1 c2 c3 hj e1 hN hok hc hu0 hTs hTj hRV hbj hu
  go_enter Tryz.func25, Tryz.ntmps25
  go_upto_region 1 with fail
  generalize hW : w.alloc _ = w0 at S ⊢
  clear hW
  obtain ⟨g, hg⟩ : ∃ g, g = w.heap.size := ⟨_, rfl⟩
  rw [← hg] at S ⊢
  clear hg
  go_wp2_with fail
  refine (HNU.out w0).mono ?_
  rintro e w1 ⟨rfl, hw⟩
  subst hw
  replace S := S.alloc (cs := #[.int .i64 N, .int .i64 0]) (ty := 54)
  go_upto_region 10 with fail
  generalize hW : w0.alloc _ = w4 at S ⊢
  clear hW
  obtain ⟨gb, hgb⟩ : ∃ g, g = w0.heap.size := ⟨_, rfl⟩
  rw [← hgb] at S ⊢
  clear hgb HNU
  have b0 := (S.blk 0 rfl).cell 0 rfl
  have b1 := (S.blk 0 rfl).cell 1 rfl
  have bf := (S.blk 0 rfl).free
  by_cases d1 : c = 60
  · have y1 : (bt T j == 60) = true := by rw [HBJ.out, d1]; rfl
    have hr : RV = (Value.tuple #[.agg #[.int .i64 N, .int .i64 (-1)], .bool ok]) := by rw [HRV.out, d1]; simp [dirS, dirOk]
    have HR := Lib.hid hr
    clear d1 hr
    go_upto_region 18 with fail
    generalize hW : World.setCell w4 _ _ = w5
    have S5 : Star w w5 [oB gb [.int .i64 N, .int .i64 (-1)] 54, oB g [.int .i64 0, .int .i64 0] 54] := hW ▸ S.set 1 _
    clear hW b0 b1 bf S
    have b0 := (S5.blk 0 rfl).cell 0 rfl
    have b1 := (S5.blk 0 rfl).cell 1 rfl
    have a0 := (S5.blk 1 rfl).cell 0 rfl
    have a1 := (S5.blk 1 rfl).cell 1 rfl
    have af := (S5.blk 1 rfl).free
    go_wp2
    generalize hW : (w5.setCell _ _).setCell _ _ = w6
    have S6 : Star w w6 [oB g [.int .i64 N, .int .i64 (-1)] 54] := hW ▸ ((S5.sel [1]).set 0 _).set 1 _
    have q0 := (S6.blk 0 rfl).cell 0 rfl
    have q1 := (S6.blk 0 rfl).cell 1 rfl
    exact bodyPost_ret (v := .tuple #[.agg #[.int .i64 N, .int .i64 (-1)], .bool ok]) (by simp [results, Tryz.results25, go_sem, q0, q1]) rfl ⟨by rw [HR.out], S6.below⟩
  have y1 : (bt T j == 60) = false := by
    rw [beq_eq_false_iff_ne, HBJ.out]; intro h; exact d1 (UInt8.toNat_inj.1 (by show c.toNat = 60; omega))
  by_cases d2 : c = 62
  · have y2 : (bt T j == 62) = true := by rw [HBJ.out, d2]; rfl
    have hr : RV = (Value.tuple #[.agg #[.int .i64 N, .int .i64 1], .bool ok]) := by rw [HRV.out, d2]; simp [dirS, dirOk]
    have HR := Lib.hid hr
    clear d1 d2 hr
    go_upto_region 18 with fail
    generalize hW : World.setCell w4 _ _ = w5
    have S5 : Star w w5 [oB gb [.int .i64 N, .int .i64 (1)] 54, oB g [.int .i64 0, .int .i64 0] 54] := hW ▸ S.set 1 _
    clear hW b0 b1 bf S
    have b0 := (S5.blk 0 rfl).cell 0 rfl
    have b1 := (S5.blk 0 rfl).cell 1 rfl
    have a0 := (S5.blk 1 rfl).cell 0 rfl
    have a1 := (S5.blk 1 rfl).cell 1 rfl
    have af := (S5.blk 1 rfl).free
    go_wp2
    generalize hW : (w5.setCell _ _).setCell _ _ = w6
    have S6 : Star w w6 [oB g [.int .i64 N, .int .i64 (1)] 54] := hW ▸ ((S5.sel [1]).set 0 _).set 1 _
    have q0 := (S6.blk 0 rfl).cell 0 rfl
    have q1 := (S6.blk 0 rfl).cell 1 rfl
    exact bodyPost_ret (v := .tuple #[.agg #[.int .i64 N, .int .i64 (1)], .bool ok]) (by simp [results, Tryz.results25, go_sem, q0, q1]) rfl ⟨by rw [HR.out], S6.below⟩
  have y2 : (bt T j == 62) = false := by
    rw [beq_eq_false_iff_ne, HBJ.out]; intro h; exact d2 (UInt8.toNat_inj.1 (by show c.toNat = 62; omega))
  by_cases d3 : c = 61
  · have y3 : (bt T j == 61) = true := by rw [HBJ.out, d3]; rfl
    have hr : RV = (Value.tuple #[.agg #[.int .i64 N, .int .i64 0], .bool ok]) := by rw [HRV.out, d3]; simp [dirS, dirOk]
    have HR := Lib.hid hr
    clear d1 d2 d3 hr
    go_upto_region 18 with fail
    generalize hW : World.setCell w4 _ _ = w5
    have S5 : Star w w5 [oB gb [.int .i64 N, .int .i64 (0)] 54, oB g [.int .i64 0, .int .i64 0] 54] := hW ▸ S.set 1 _
    clear hW b0 b1 bf S
    have b0 := (S5.blk 0 rfl).cell 0 rfl
    have b1 := (S5.blk 0 rfl).cell 1 rfl
    have a0 := (S5.blk 1 rfl).cell 0 rfl
    have a1 := (S5.blk 1 rfl).cell 1 rfl
    have af := (S5.blk 1 rfl).free
    go_wp2
    generalize hW : (w5.setCell _ _).setCell _ _ = w6
    have S6 : Star w w6 [oB g [.int .i64 N, .int .i64 (0)] 54] := hW ▸ ((S5.sel [1]).set 0 _).set 1 _
    have q0 := (S6.blk 0 rfl).cell 0 rfl
    have q1 := (S6.blk 0 rfl).cell 1 rfl
    exact bodyPost_ret (v := .tuple #[.agg #[.int .i64 N, .int .i64 (0)], .bool ok]) (by simp [results, Tryz.results25, go_sem, q0, q1]) rfl ⟨by rw [HR.out], S6.below⟩
  have y3 : (bt T j == 61) = false := by
    rw [beq_eq_false_iff_ne, HBJ.out]; intro h; exact d3 (UInt8.toNat_inj.1 (by show c.toNat = 61; omega))
  have hr : RV = (Value.tuple #[.agg #[.int .i64 N, .int .i64 0], .bool false]) := by rw [HRV.out]; simp [dirS, dirOk, d1, d2, d3]
  have HR := Lib.hid hr
  clear d1 d2 d3 hr
  have a0 := (S.blk 1 rfl).cell 0 rfl
  have a1 := (S.blk 1 rfl).cell 1 rfl
  have af := (S.blk 1 rfl).free
  go_wp2
  generalize hW : (w4.setCell _ _).setCell _ _ = w6
  have S6 : Star w w6 [oB g [.int .i64 N, .int .i64 0] 54] := hW ▸ ((S.sel [1]).set 0 _).set 1 _
  have q0 := (S6.blk 0 rfl).cell 0 rfl
  have q1 := (S6.blk 0 rfl).cell 1 rfl
  exact bodyPost_ret (v := .tuple #[.agg #[.int .i64 N, .int .i64 0], .bool false]) (by simp [results, Tryz.results25, go_sem, q0, q1]) rfl ⟨by rw [HR.out], S6.below⟩

end Go.Proofs.YtodoghidckelcaaGreatDoor
