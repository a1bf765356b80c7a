/-
  A writer drawn from a source of choices: it is a right one.
-/
import Derived.Test.YtfamhnogpcmbmaaGreatDoorDrawUK
import Derived.Test.YtfamhnogpcmbmaaGreatDoorSpecCopyK
import Derived.Test.YtfamhnogpcmbmaaGreatDoorSpecBackWK
import Derived.Test.YtfamhnogpcmbmaaGreatDoorSetInK
import Derived.Test.YtfamhnogpcmbmaaGreatDoorStarKK
import Derived.Test.YtfamhnogpcmbmaaGreatDoorPackA
namespace Go.Proofs.YtfamhnogpcmbmaaGreatDoor
open Go.RowKit

theorem copy_oks : ((List.range 4).all fun L => (List.range 3).all fun T => decide (L = 0) || (decide (T = 0) || writerOk (copyW L T))) = true := by decide +kernel

theorem copy_right {c T : Nat} (c1 : 1 ≤ c) (c3 : c ≤ 3) (t1 : 1 ≤ T) (t2 : T ≤ 2) : copyWriter c T = (copyW c T, 0) ∧ writerOk (copyW c T) = true := by
  have h := List.all_eq_true.1 (List.all_eq_true.1 copy_oks c (List.mem_range.2 (by omega))) T (List.mem_range.2 (by omega))
  rw [Bool.or_eq_true, Bool.or_eq_true, decide_eq_true_eq, decide_eq_true_eq] at h
  have hw : writerOk (copyW c T) = true := by
    rcases h with h | h | h
    · omega
    · omega
    · exact h
  refine ⟨?_, hw⟩
  unfold copyWriter writOr
  rw [within_eq ⟨by omega, by omega⟩, decide_eq_true (show (1 : Int) ≤ (T : Int) by omega), Bool.and_self, if_pos (rfl : true = true), if_neg (show ¬ (12 : Int) < (T : Int) by omega), Int.toNat_natCast, Int.toNat_natCast, if_pos hw]

theorem back_oks : ((List.range 4).all fun L => decide (L = 0) || writerOk (backWriter (L : Nat)).1) = true := by decide +kernel

theorem back_right {c : Nat} (c1 : 1 ≤ c) (c3 : c ≤ 3) : ∃ W, backWriter c = (W, 0) ∧ writerOk W = true ∧ W.turner.letters = c := by
  have h := List.all_eq_true.1 back_oks c (List.mem_range.2 (by omega))
  rw [Bool.or_eq_true, decide_eq_true_eq] at h
  refine ⟨(backWriter c).1, ?_, ?_, ?_⟩
  · unfold backWriter; rw [if_pos (within_eq ⟨by omega, by omega⟩)]
  · rcases h with h | h
    · omega
    · exact h
  · unfold backWriter; rw [if_pos (within_eq ⟨by omega, by omega⟩)]

theorem setCell_self {w : World} {b o : Nat} {v : Value} (h : w.cell? ⟨b, o, none⟩ = some v) : w.setCell ⟨b, o, none⟩ v = w := by
  have hh : (w.setCell ⟨b, o, none⟩ v).heap = w.heap := by
    apply Array.ext_getElem?
    intro i
    unfold World.cell? at h
    unfold World.setCell
    simp only [Array.getElem?_modify]
    by_cases hi : b = i
    · subst hi
      rw [if_pos rfl]
      cases hx : w.heap[b]? with
      | none => rfl
      | some x =>
        simp only [hx] at h
        cases x with
        | cells c e f =>
          simp only [Option.isSome_none, Bool.false_eq_true, if_false] at h
          simp only [Option.map_some, Option.isSome_none, Bool.false_eq_true, if_false, Option.some.injEq, Obj.cells.injEq, and_true]
          apply Array.ext_getElem?
          intro j
          rw [Array.getElem?_setIfInBounds]
          by_cases hj : o = j
          · subst hj
            obtain ⟨h1, h2⟩ := Array.getElem?_eq_some_iff.1 h
            rw [if_pos rfl, if_pos h1, h]
          · rw [if_neg hj]
        | _ => simp at h
    · rw [if_neg hi]
  have e : w.setCell ⟨b, o, none⟩ v = { w with heap := (w.setCell ⟨b, o, none⟩ v).heap } := rfl
  rw [e, hh]

/-- Where a move in a row leads to, written anew. -/
theorem Star.setMoveTo {w0 w : World} {ps : List Ob} {ty te : TypeId} {l : List (List Move)} {g n c : Nat} (S : Star w0 w (oE (sliceE (sliceE moveE te) ty) [.slice (some ⟨g, 0, none⟩) n c] l :: ps)) (i : Nat) (x : List Move) (hi : l[i]? = some x) {rb rn rc : Nat} (hu : w.cell? ⟨g, i, none⟩ = some (.slice (some ⟨rb, 0, none⟩) rn rc)) (j : Nat) (a b : Int) (hq : w.cell? ⟨rb, j * 2 + 1, none⟩ = some (.int .i64 b)) (ha : -9223372036854775808 ≤ a ∧ a ≤ 9223372036854775807) (hb : -9223372036854775808 ≤ b ∧ b ≤ 9223372036854775807) :
    Star w0 (w.setCell ⟨rb, j * 2, none⟩ (.int .i64 a)) (oE (sliceE (sliceE moveE te) ty) [.slice (some ⟨g, 0, none⟩) n c] (l.set i (x.set j ⟨a, b⟩)) :: ps) := by
  have h := S.setMove i x hi hu j a b ha hb
  rwa [setCell_self ((World.cell?_setCell_other _ _ _ _ (fun e => by injection e; omega)).trans hq)] at h

theorem moveOk_two {d n c a : Int} (h : moveOk ⟨-2, d⟩ n c a = true) : d = 0 := by
  unfold moveOk isStopB within at h
  simp at h
  exact h

theorem RowsIs.setTo {n c : Nat} {M : List (List Move)} (h : RowsIs n c n M) (k a : Nat) (row : List Move) (d : Int) (hk : M[k]? = some row) (ha : row[a]? = some ⟨-2, d⟩) : RowsIs n c n (M.set k (row.set a ⟨-1, d⟩)) := by
  refine ⟨by rw [List.length_set]; exact h.len, fun r hr => ?_⟩
  rcases List.mem_or_eq_of_mem_set hr with hr | rfl
  · exact h.ok r hr
  have hrow := h.ok row (List.mem_of_getElem? hk)
  unfold mrowOk at hrow ⊢
  rw [Bool.and_eq_true, decide_eq_true_eq] at hrow
  have hd : d = 0 := by
    have hal := (List.getElem?_eq_some_iff.1 ha).1
    have := List.all_eq_true.1 hrow.2 a (List.mem_range.2 hal)
    rw [ha] at this
    exact moveOk_two this
  rw [List.length_set, decide_eq_true hrow.1, Bool.true_and, List.all_eq_true]
  intro i hi
  by_cases e : a = i
  · subst e
    rw [List.getElem?_set_self (List.mem_range.1 hi), Option.getD_some, hd]
    exact mv_stop (.inl rfl)
  · rw [List.getElem?_set_ne e]
    exact List.all_eq_true.1 hrow.2 i hi

structure OutsIs (c k : Nat) (Out : List (List ByteArray)) : Prop where
  len : Out.length = k
  ok : ∀ r, r ∈ Out → r.length = c + 2 ∧ ∀ x, x ∈ r → outOk x = true

theorem OutsIs.snoc {c k : Nat} {Out : List (List ByteArray)} (h : OutsIs c k Out) {r : List ByteArray} (h1 : r.length = c + 2) (h2 : ∀ x, x ∈ r → outOk x = true) : OutsIs c (k + 1) (Out ++ [r]) := by
  refine ⟨by rw [List.length_append, h.len]; rfl, fun x hx => ?_⟩
  rcases List.mem_append.1 hx with hx | hx
  · exact h.ok x hx
  · rw [List.mem_singleton.1 hx]; exact ⟨h1, h2⟩

theorem writ_right {c n st : Nat} {M : List (List Move)} {Out : List (List ByteArray)} (hc1 : 1 ≤ c) (hc : c ≤ 3) (hn1 : 1 ≤ n) (hn : n ≤ 12) (hst : st < n) (hM : RowsIs n c n M) (hO : OutsIs c n Out) : writerOk ⟨⟨(c : Nat), (st : Nat), M⟩, Out⟩ = true := by
  have hval : validTurn ⟨(c : Nat), (st : Nat), M⟩ = true := by
    unfold validTurn
    simp only
    rw [hM.len, within_eq ⟨by omega, by omega⟩, within_eq ⟨by omega, by omega⟩, within_eq ⟨by omega, by omega⟩, Bool.true_and, Bool.true_and, Bool.true_and, List.all_eq_true]
    exact hM.ok
  unfold writerOk
  simp only
  rw [hval, Bool.true_and, decide_eq_true (by rw [hO.len, hM.len]), Bool.true_and, List.all_eq_true]
  intro s hs
  rw [List.mem_range, hM.len] at hs
  have h1 : s < Out.length := by rw [hO.len]; exact hs
  have h2 : s < M.length := by rw [hM.len]; exact hs
  rw [List.getElem?_eq_getElem h1, List.getElem?_eq_getElem h2]
  obtain ⟨k1, k2⟩ := hO.ok _ (List.getElem_mem h1)
  have k3 := hM.ok _ (List.getElem_mem h2)
  unfold mrowOk at k3
  rw [Bool.and_eq_true, decide_eq_true_eq] at k3
  unfold orowOk
  simp only [Option.getD_some]
  rw [decide_eq_true (by rw [k1]; have := k3.1; omega), Bool.true_and, List.all_eq_true]
  exact k2

theorem writ_part {w0 w : World} {ps : List Ob} {v2 v3 : Value} {x : Writer} (S : Star w0 w (oE movessE [v2] x.turner.moves :: oE strssE [v3] x.out :: ps)) (b0 : -9223372036854775808 ≤ x.turner.letters ∧ x.turner.letters ≤ 9223372036854775807) (b1 : -9223372036854775808 ≤ x.turner.start ∧ x.turner.start ≤ 9223372036854775807) :
    Star w0 w (oE writE [.int .i64 x.turner.letters, .int .i64 x.turner.start, v2, v3] x :: ps) :=
  Star.via (E := pairE turnE strssE) (F := fun w : Writer => (w.turner, w.out)) (Star.pair (c1 := [.int .i64 x.turner.letters, .int .i64 x.turner.start, v2]) (turn_part S b0 b1)) x rfl

/-- The nine texts that are drawn. -/
def nineT : List ByteArray := [⟨#[]⟩, ⟨#[]⟩, ⟨#[]⟩, ⟨#[97]⟩, ⟨#[98]⟩, ⟨#[99]⟩, ⟨#[97, 98]⟩, ⟨#[98, 97]⟩, ⟨#[99, 97, 98]⟩]

theorem nine_ok : (nineT.all fun x => outOk x && decide (x.size ≤ 3)) = true := by decide +kernel

set_option maxHeartbeats 16000000 in
set_option maxRecDepth 100000 in
theorem l07Drawn_any (ps : List Ob) (q K c most : Nat) (v : Value) (w0 w : World) (hc1 : 1 ≤ c) (hc : c ≤ 3) (hm1 : 1 ≤ most) (hm : most ≤ 4) (hK : K ≤ 1000) (hr : SrcIs w0 v) (S : Star w0 w (oSrc q v K :: ps)) :
    Calls Tryz.prog 16 #[.pointer (some ⟨q, 0, none⟩), .int .i64 (c : Nat), .int .i64 (most : Nat)] w (fun e w' => ∃ (W : Writer) (v2 v3 : Value), e = .returned (.agg #[.int .i64 W.turner.letters, .int .i64 W.turner.start, v2, v3]) ∧ writerOk W = true ∧ W.turner.letters = c ∧ Star w0 w' (oE writE [.int .i64 W.turner.letters, .int .i64 W.turner.start, v2, v3] W :: oSrc q v (K + 700) :: ps)) := by
  have wc2 : IntKind.i64.wrap ((c : Int) + 2) = (c : Int) + 2 := IntWalk.i64_in _ ⟨by omega, by omega⟩
  replace S := (S.alloc (cs := #[.int .i64 0, .int .i64 0, .slice none 0 0, .slice none 0 0]) (ty := 29)).selM 2 [1, 0]
  go_enter Tryz.func16, Tryz.ntmps16
  go_wp2_with fail
  generalize hW : w.alloc _ = w1 at S ⊢
  obtain ⟨g6, hg6⟩ : ∃ g, g = w.heap.size := ⟨_, rfl⟩
  rw [← hg6] at S ⊢
  clear hW hg6
  refine (l02Drawn_any _ q K c most v w0 w1 hc1 hc hm1 hm hK hr S).mono ?_
  rintro e w2 ⟨⟨tl, ts, M⟩, v2, rfl, hT, hTc, hTm, S2⟩
  simp only at hTc hTm
  subst hTc
  obtain ⟨v2', hcs, -, hb1, k2⟩ := rd_Turner (S2.rd 0 rfl)
  obtain rfl : v2 = v2' := by simpa using hcs
  obtain ⟨ma, mn, mc, rfl⟩ := rd_slice k2
  have hv := hT
  unfold validTurn at hv
  simp only [Bool.and_eq_true] at hv
  obtain ⟨hv1, hv2a, hv3a, hv4⟩ := hv
  have hv2 := within_true.1 hv2a
  have hv3 := within_true.1 hv3a
  obtain ⟨st, rfl⟩ : ∃ st : Nat, ts = st := ⟨ts.toNat, by omega⟩
  obtain ⟨n, hn⟩ : ∃ n, n = M.length := ⟨_, rfl⟩
  rw [← hn] at hv2 hv3 hv4 hTm
  have hn1 : 1 ≤ n := by omega
  have hn4 : n ≤ 4 := by omega
  have hstn : st < n := by omega
  have hRows : RowsIs n c n M := ⟨hn.symm, fun r hr => List.all_eq_true.1 hv4 r hr⟩
  have HRows := Lib.hid hRows
  have S3 := ((movesOf_part S2).alloc (cs := #[.int .i64 (c : Nat), .int .i64 (st : Nat), .slice ma mn mc, .slice none 0 0]) (ty := 29)).nils strsE 50
  clear S S2 hT hcs hb1 k2 hv1 hv2 hv3 hv2a hv3a hv4 hRows hn hTm
  go_wp2_with fail
  generalize hW : w2.alloc _ = w3 at S3 ⊢
  obtain ⟨g7, hg7⟩ : ∃ g, g = w2.heap.size := ⟨_, rfl⟩
  rw [← hg7] at S3 ⊢
  clear hW hg7
  have S5 : Star w0 w3 (oSrc q v (K + 200) :: oE movessE [.slice ma mn mc] M :: oB g7 [.int .i64 (c : Nat), .int .i64 (st : Nat), .slice ma mn mc, .slice none 0 0] 29 :: oE strssE [.slice none 0 0] [] :: oB g6 [.int .i64 0, .int .i64 0, .slice none 0 0, .slice none 0 0] 29 :: ps) := S3.selM 5 [3, 2, 1, 0, 4]
  clear S3
  refine (oneP_any _ q (K + 200) 3 v w0 w3 ⟨by decide, by decide⟩ (by omega) hr S5).mono ?_
  rintro e w4 ⟨b, rfl, S6⟩
  clear S5
  cases b
  case true =>
    go_wp2_with fail
    refine (pickP_any _ q (K + 201) 2 v w0 w4 ⟨by decide, by decide⟩ (by omega) hr S6).mono ?_
    rintro e w5 ⟨y, rfl, hy, S7⟩
    clear S6
    obtain ⟨T2, hT2⟩ : ∃ T, T = 1 + y := ⟨_, rfl⟩
    have wy : IntKind.i64.wrap (1 + (y : Int)) = (T2 : Int) := by rw [hT2, Int.natCast_add]; exact IntWalk.i64_in _ ⟨by omega, by omega⟩
    have ht1 : 1 ≤ T2 := by omega
    have ht2 : T2 ≤ 2 := by omega
    obtain ⟨hcw, hcv⟩ := copy_right hc1 hc ht1 ht2
    have hlet : (copyW c T2).turner.letters = (c : Nat) := rfl
    have HC := Lib.hid (fun w' => specCopy_is (copyW c T2, 0) (c : Nat) (T2 : Nat) w' ⟨by omega, by omega⟩ ⟨by omega, by omega⟩ hcw)
    obtain ⟨W, hWW⟩ : ∃ W, W = copyW c T2 := ⟨_, rfl⟩
    rw [← hWW] at HC hcv hlet
    have HV := Lib.hid hcv; have HL := Lib.hid hlet
    clear hT2 hy hcw hcv hlet hWW
    go_wp2_with fail
    refine (HC.out w5).mono ?_
    rintro e w6 ⟨cs, f, rfl, o, nd, lo, b6⟩
    obtain ⟨x2, x3, rfl, -, -, q2, q3⟩ := rd_WriterF (writE.rd_ow o)
    obtain ⟨xa, xn, xc, rfl⟩ := rd_slice q2
    obtain ⟨ya, yn, yc, rfl⟩ := rd_slice q3
    have S8 := (S7.made o nd lo b6).alloc (cs := #[.int .i64 W.turner.letters, .int .i64 W.turner.start, .slice xa xn xc, .slice ya yn yc]) (ty := 29)
    clear o nd lo b6 q2 q3 S7 HC
    dsimp only
    go_wp2_with fail
    generalize hW : w6.alloc _ = w7 at S8 ⊢
    obtain ⟨g8, hg8⟩ : ∃ g, g = w6.heap.size := ⟨_, rfl⟩
    rw [← hg8] at S8 ⊢
    clear hW hg8
    have S9 : Star w0 w7 (oSrc q v (K + 202) :: oB g8 [.int .i64 W.turner.letters, .int .i64 W.turner.start, .slice xa xn xc, .slice ya yn yc] 29 :: oE writE [.int .i64 W.turner.letters, .int .i64 W.turner.start, .slice xa xn xc, .slice ya yn yc] W :: oB g6 [.int .i64 0, .int .i64 0, .slice none 0 0, .slice none 0 0] 29 :: ps) := S8.selM 7 [2, 0, 1, 6]
    clear S8
    refine (oneP_any _ q (K + 202) 2 v w0 w7 ⟨by decide, by decide⟩ (by omega) hr S9).mono ?_
    rintro e w8 ⟨b2, rfl, S10⟩
    clear S9
    cases b2
    case false =>
      have A1 := S10.blk 1 rfl
      have x0 := A1.cell 0 rfl
      have x1 := A1.cell 1 rfl
      have x2 := A1.cell 2 rfl
      have x3 := A1.cell 3 rfl
      have A2 := S10.blk 3 rfl
      have y0 := A2.cell 0 rfl
      have y1 := A2.cell 1 rfl
      have y2 := A2.cell 2 rfl
      have y3 := A2.cell 3 rfl
      have yf := A2.free
      clear A1 A2
      go_wp2
      generalize hW : (((w8.setCell _ _).setCell _ _).setCell _ _).setCell _ _ = w9
      have S11 := (S10.selM 4 [3, 2, 0]).set4 rfl hW
      have A3 := S11.blk 0 rfl
      have r0 := A3.cell 0 rfl
      have r1 := A3.cell 1 rfl
      have r2 := A3.cell 2 rfl
      have r3 := A3.cell 3 rfl
      exact bodyPost_ret (v := .agg #[.int .i64 W.turner.letters, .int .i64 W.turner.start, .slice xa xn xc, .slice ya yn yc]) (by simp [results, Tryz.results16, go_sem, r0, r1, r2, r3]) rfl ⟨W, _, _, rfl, HV.out, HL.out, ((S11.selM 3 [2, 1]).moreSrc (by omega)).selM 2 [1, 0]⟩
    case true =>
      obtain ⟨W2, hbw, hbv, hbl⟩ := back_right hc1 hc
      have HC := Lib.hid (fun w' => specBackWriter_is (W2, 0) (c : Nat) w' ⟨by omega, by omega⟩ hbw)
      have HV2 := Lib.hid hbv; have HL2 := Lib.hid hbl
      clear hbw hbv hbl
      go_wp2_with fail
      refine (HC.out w8).mono ?_
      rintro e w9 ⟨cs, f, rfl, o, nd, lo, b6⟩
      obtain ⟨x2, x3, rfl, -, -, q2, q3⟩ := rd_WriterF (writE.rd_ow o)
      obtain ⟨za, zn, zc, rfl⟩ := rd_slice q2
      obtain ⟨ua, un, uc, rfl⟩ := rd_slice q3
      have S11 := (S10.made o nd lo b6).selM 5 [2, 0, 1, 4]
      clear o nd lo b6 q2 q3 S10 HC
      dsimp only
      have A1 := S11.blk 0 rfl
      have x0 := A1.cell 0 rfl
      have x1 := A1.cell 1 rfl
      have x2 := A1.cell 2 rfl
      have x3 := A1.cell 3 rfl
      have xf := A1.free
      clear A1
      go_upto_region 6 with fail
      generalize hW : (((w9.setCell _ _).setCell _ _).setCell _ _).setCell _ _ = w10
      have S12 := S11.set4 rfl hW
      clear hW x0 x1 x2 x3 xf S11
      have A1 := S12.blk 0 rfl
      have x0 := A1.cell 0 rfl
      have x1 := A1.cell 1 rfl
      have x2 := A1.cell 2 rfl
      have x3 := A1.cell 3 rfl
      have A2 := S12.blk 3 rfl
      have y0 := A2.cell 0 rfl
      have y1 := A2.cell 1 rfl
      have y2 := A2.cell 2 rfl
      have y3 := A2.cell 3 rfl
      have yf := A2.free
      clear A1 A2
      go_wp2
      generalize hW : (((w10.setCell _ _).setCell _ _).setCell _ _).setCell _ _ = w11
      have S13 := (S12.selM 4 [3, 1, 2]).set4 rfl hW
      have A3 := S13.blk 0 rfl
      have r0 := A3.cell 0 rfl
      have r1 := A3.cell 1 rfl
      have r2 := A3.cell 2 rfl
      have r3 := A3.cell 3 rfl
      exact bodyPost_ret (v := .agg #[.int .i64 W2.turner.letters, .int .i64 W2.turner.start, .slice za zn zc, .slice ua un uc]) (by simp [results, Tryz.results16, go_sem, r0, r1, r2, r3]) rfl ⟨W2, _, _, rfl, HV2.out, HL2.out, ((S13.selM 3 [2, 1]).moreSrc (by omega)).selM 2 [1, 0]⟩
  case false =>
    have hM0 : M.length = n := HRows.out.len
    obtain ⟨mb, mc', hv, -, -, -, -⟩ := S6.rows 1 rfl (by rw [hM0]; omega)
    simp only [Value.slice.injEq] at hv
    obtain ⟨rfl, rfl, rfl⟩ := hv
    rw [hM0] at S6 ⊢
    have S : Star w0 w4 (oSrc q v (K + 201 + 100 * 0) :: oE movessE [.slice (some ⟨mb, 0, none⟩) n mc] M :: oB g7 [.int .i64 (c : Nat), .int .i64 (st : Nat), .slice (some ⟨mb, 0, none⟩) n mc, .slice none 0 0] 29 :: oE strssE [.slice none 0 0] [] :: oB g6 [.int .i64 0, .int .i64 0, .slice none 0 0, .slice none 0 0] 29 :: ps) := S6
    clear S6 hM0
    go_wp2
    go_loopw [10, 11, 12] (fun vk _ _ wr => ∃ (k : Nat) (oa : Option Addr) (on oc : Nat) (Out : List (List ByteArray)) (M : List (List Move)), k ≤ n ∧ vk = .int .i64 k ∧ Star w0 wr (oSrc q v (K + 201 + 100 * k) :: oE movessE [.slice (some ⟨mb, 0, none⟩) n mc] M :: oB g7 [.int .i64 (c : Nat), .int .i64 (st : Nat), .slice (some ⟨mb, 0, none⟩) n mc, .slice oa on oc] 29 :: oE strssE [.slice oa on oc] Out :: oB g6 [.int .i64 0, .int .i64 0, .slice none 0 0, .slice none 0 0] 29 :: ps) ∧ Hid (RowsIs n c n M) ∧ Hid (OutsIs c k Out)) (fun vk _ _ _ => n - (intOf vk).toNat)
    case atStart => exact ⟨0, _, _, _, [], M, Nat.zero_le _, rfl, S, HRows, Lib.hid ⟨rfl, fun r hr => (by cases hr)⟩⟩
    case round =>
      clear S HRows M
      obtain ⟨k, oa, on, oc, Out, M, hk, rfl, S, HM, HO⟩ := hrel
      have x2 := (S.blk 2 rfl).cell 2 rfl
      by_cases hkn : k < n
      case neg =>
        obtain rfl : k = n := by omega
        have x0 := (S.blk 2 rfl).cell 0 rfl
        have x1 := (S.blk 2 rfl).cell 1 rfl
        have x3 := (S.blk 2 rfl).cell 3 rfl
        have A2 := S.blk 4 rfl
        have y0 := A2.cell 0 rfl
        have y1 := A2.cell 1 rfl
        have y2 := A2.cell 2 rfl
        have y3 := A2.cell 3 rfl
        have yf := A2.free
        clear A2
        go_wp2
        generalize hW : (((wr.setCell _ _).setCell _ _).setCell _ _).setCell _ _ = w9
        have S9 := (S.selM 5 [4, 1, 3, 0]).set4 rfl hW
        have A3 := S9.blk 0 rfl
        have r0 := A3.cell 0 rfl
        have r1 := A3.cell 1 rfl
        have r2 := A3.cell 2 rfl
        have r3 := A3.cell 3 rfl
        have hok := writ_right hc1 hc hn1 (by omega) hstn HM.out HO.out
        have SW := writ_part (x := (⟨⟨(c : Nat), (st : Nat), M⟩, Out⟩ : Writer)) (S9.selM 4 [1, 2, 3]) ⟨by show _ ≤ ((c : Nat) : Int); omega, by show ((c : Nat) : Int) ≤ _; omega⟩ ⟨by show _ ≤ ((st : Nat) : Int); omega, by show ((st : Nat) : Int) ≤ _; omega⟩
        have hkb : K + 201 + 100 * k ≤ K + 700 := by omega
        have SX := Star.moreSrc (K := K + 201 + 100 * k) (SW.selM 2 [1, 0]) hkb
        exact bodyPost_ret (v := .agg #[.int .i64 (c : Nat), .int .i64 (st : Nat), .slice (some ⟨mb, 0, none⟩) k mc, .slice oa on oc]) (by simp [results, Tryz.results16, go_sem, r0, r1, r2, r3]) rfl ⟨(⟨⟨(c : Nat), (st : Nat), M⟩, Out⟩ : Writer), _, _, rfl, hok, rfl, SX.selM 2 [1, 0]⟩
      have hOl : Out.length ≤ 1000000000000 := by have := HO.out.len; omega
      have SB := (S.alloc (cs := #[]) (ty := 9)).lit0 (α := ByteArray) (E := strE)
      go_upto_region 11 with fail
      generalize hW : wr.alloc _ = w5 at SB ⊢
      obtain ⟨g11, hg11⟩ : ∃ g, g = wr.heap.size := ⟨_, rfl⟩
      rw [← hg11] at SB ⊢
      clear hW hg11 S x2
      have S : Star w0 w5 (oSrc q v (K + 201 + 100 * k + 8 * 0) :: oE strsE [.slice (some ⟨g11, 0, none⟩) 0 0] [] :: oE movessE [.slice (some ⟨mb, 0, none⟩) n mc] M :: oB g7 [.int .i64 (c : Nat), .int .i64 (st : Nat), .slice (some ⟨mb, 0, none⟩) n mc, .slice oa on oc] 29 :: oE strssE [.slice oa on oc] Out :: oB g6 [.int .i64 0, .int .i64 0, .slice none 0 0, .slice none 0 0] 29 :: ps) := SB.selM 2 [1, 0]
      clear SB
      go_wp2
      go_loopw [11, 12] (fun vr va wr => ∃ (a : Nat) (ra : Option Addr) (rn rc : Nat) (Row : List ByteArray) (M : List (List Move)), a ≤ c + 2 ∧ vr = .slice ra rn rc ∧ va = .int .i64 a ∧ Star w0 wr (oSrc q v (K + 201 + 100 * k + 8 * a) :: oE strsE [.slice ra rn rc] Row :: oE movessE [.slice (some ⟨mb, 0, none⟩) n mc] M :: oB g7 [.int .i64 (c : Nat), .int .i64 (st : Nat), .slice (some ⟨mb, 0, none⟩) n mc, .slice oa on oc] 29 :: oE strssE [.slice oa on oc] Out :: oB g6 [.int .i64 0, .int .i64 0, .slice none 0 0, .slice none 0 0] 29 :: ps) ∧ Hid (RowsIs n c n M) ∧ Hid (Row.length = a ∧ ∀ x, x ∈ Row → outOk x = true)) (fun _ va _ => c + 2 - (intOf va).toNat)
      case atStart => exact ⟨0, _, _, _, [], M, Nat.zero_le _, rfl, rfl, S, HM, Lib.hid ⟨rfl, fun x hx => (by cases hx)⟩⟩
      case round =>
        clear S HM M
        obtain ⟨a, ra, rn, rc, Row, M, ha, rfl, rfl, S, HM, HR⟩ := hrel
        by_cases hac : a < c + 2
        case neg =>
          obtain rfl : a = c + 2 := by omega
          have hl : ¬ (((c + 2 : Nat) : Int) < (c : Int) + 2) := by omega
          have HO2 := Lib.hid (HO.out.snoc HR.out.1 HR.out.2)
          have z3 := (S.blk 3 rfl).cell 3 rfl
          have SA : Star w0 (wr.alloc (.cells #[.slice ra rn rc] 50)) (oE strssE [.slice oa on oc] Out :: oE strsE [.slice ra rn rc] Row :: oSrc q v (K + 201 + 100 * k + 8 * (c + 2)) :: oE movessE [.slice (some ⟨mb, 0, none⟩) n mc] M :: oB g7 [.int .i64 (c : Nat), .int .i64 (st : Nat), .slice (some ⟨mb, 0, none⟩) n mc, .slice oa on oc] 29 :: oB g6 [.int .i64 0, .int .i64 0, .slice none 0 0, .slice none 0 0] 29 :: ps) := (S.alloc (cs := #[.slice ra rn rc]) (ty := 50)).selM 7 [5, 2, 1, 3, 4, 6]
          clear S
          go_wp2_with (at_builtin; refine st1_StringSS SA rfl rfl rfl rfl cell_a1 (one_mem rfl) hOl ?_; intro ja jn jc w9 S9; have z3 := (S9.blk 3 rfl).cell 3 rfl; have zf := (S9.blk 3 rfl).free)
          have S10 := ((S9.selM 5 [3, 0, 1, 2, 4]).set 3 (.slice ja jn jc)).selM 5 [2, 3, 0, 1, 4]
          go_roundw
          case rel => exact ⟨k + 1, _, _, _, _, M, by omega, by go_num, S10.moreSrc (by omega), HM, HO2⟩
          case measure => simp [intOf]; omega
        have hl : (a : Int) < (c : Int) + 2 := by omega
        have hRl : Row.length ≤ 1000000000000 := by have := HR.out.1; omega
        obtain ⟨K1, hK1⟩ : ∃ K1, K1 = K + 201 + 100 * k + 8 * a := ⟨_, rfl⟩
        have hK1b : K1 ≤ 4000 := by omega
        have HK1 := Lib.hid (show K1 + 8 ≤ K + 201 + 100 * k + 8 * (a + 1) by omega)
        rw [← hK1] at S
        clear hK1
        have S3 : Star w0 (wr.alloc (.cells #[.string ⟨#[]⟩, .string ⟨#[]⟩, .string ⟨#[]⟩, .string ⟨#[97]⟩, .string ⟨#[98]⟩, .string ⟨#[99]⟩, .string ⟨#[97, 98]⟩, .string ⟨#[98, 97]⟩, .string ⟨#[99, 97, 98]⟩] 9)) (oSrc q v K1 :: oB wr.heap.size (nineT.map Value.string) 9 :: oE strsE [.slice ra rn rc] Row :: oE movessE [.slice (some ⟨mb, 0, none⟩) n mc] M :: oB g7 [.int .i64 (c : Nat), .int .i64 (st : Nat), .slice (some ⟨mb, 0, none⟩) n mc, .slice oa on oc] 29 :: oE strssE [.slice oa on oc] Out :: oB g6 [.int .i64 0, .int .i64 0, .slice none 0 0, .slice none 0 0] 29 :: ps) := (S.alloc (cs := #[.string ⟨#[]⟩, .string ⟨#[]⟩, .string ⟨#[]⟩, .string ⟨#[97]⟩, .string ⟨#[98]⟩, .string ⟨#[99]⟩, .string ⟨#[97, 98]⟩, .string ⟨#[98, 97]⟩, .string ⟨#[99, 97, 98]⟩]) (ty := 9)).selM 2 [1, 0]
        clear S
        go_wp2_with fail
        refine (textP_any _ q K1 wr.heap.size 9 nineT v w0 _ rfl ⟨by decide, by decide⟩ (by omega) hr S3).mono ?_
        rintro e w2 ⟨x, rfl, hx, S4⟩
        clear S3
        have hxo := List.all_eq_true.1 nine_ok x hx
        rw [Bool.and_eq_true, decide_eq_true_eq] at hxo
        have HR2 := Lib.hid (show (Row ++ [x]).length = a + 1 ∧ ∀ y, y ∈ Row ++ [x] → outOk y = true from ⟨by rw [List.length_append, HR.out.1]; rfl, fun y hy => by
          rcases List.mem_append.1 hy with hy | hy
          · exact HR.out.2 y hy
          · rw [List.mem_singleton.1 hy]; exact hxo.1⟩)
        have SA : Star w0 (w2.alloc (.cells #[.string x] 9)) (oE strsE [.slice ra rn rc] Row :: oE strE [.string x] x :: oSrc q v (K1 + 1) :: oE movessE [.slice (some ⟨mb, 0, none⟩) n mc] M :: oB g7 [.int .i64 (c : Nat), .int .i64 (st : Nat), .slice (some ⟨mb, 0, none⟩) n mc, .slice oa on oc] 29 :: oE strssE [.slice oa on oc] Out :: oB g6 [.int .i64 0, .int .i64 0, .slice none 0 0, .slice none 0 0] 29 :: ps) := ((S4.alloc (cs := #[.string x]) (ty := 9)).str (x := x) (Nat.le_trans hxo.2 (by decide))).selM 8 [3, 0, 2, 4, 5, 6, 7]
        clear S4 hx hxo HR
        go_upto_region 15 with (at_builtin; refine st1_StringS SA rfl rfl rfl rfl cell_a1 (one_mem rfl) hRl ?_; intro ja jn jc w3 S9)
        clear SA
        have hMl : M.length = n := HM.out.len
        have hkM : k < M.length := by omega
        obtain ⟨row, hrow⟩ : ∃ r, r = M[k] := ⟨_, rfl⟩
        have hget : M[k]? = some row := by rw [hrow]; exact List.getElem?_eq_getElem hkM
        have hrl : row.length = c + 2 := by
          have h := HM.out.ok row (List.mem_of_getElem? hget)
          unfold mrowOk at h
          rw [Bool.and_eq_true, decide_eq_true_eq] at h
          have := h.1
          omega
        have har : a < row.length := by omega
        obtain ⟨⟨mt, md⟩, hm2⟩ : ∃ m, m = row[a] := ⟨_, rfl⟩
        have hgm : row[a]? = some ⟨mt, md⟩ := by rw [hm2]; exact List.getElem?_eq_getElem har
        have HGET := Lib.hid hget; have HGM := Lib.hid hgm; have HRL := Lib.hid hrl; have HML := Lib.hid hMl
        have S10 : Star w0 w3 (oSrc q v (K1 + 1) :: oE strsE [.slice ja jn jc] (Row ++ [x]) :: oE movessE [.slice (some ⟨mb, 0, none⟩) n mc] M :: oB g7 [.int .i64 (c : Nat), .int .i64 (st : Nat), .slice (some ⟨mb, 0, none⟩) n mc, .slice oa on oc] 29 :: oE strssE [.slice oa on oc] Out :: oB g6 [.int .i64 0, .int .i64 0, .slice none 0 0, .slice none 0 0] 29 :: ps) := S9.selM 2 [1, 0]
        clear S9 hrow hget har hm2 hgm hrl hkM hMl
        have cellsOf : ∀ wz L, Star w0 wz L → L[2]? = some (oE movessE [.slice (some ⟨mb, 0, none⟩) n mc] M) → ∃ rb rc', wz.cell? ⟨mb, k, none⟩ = some (.slice (some ⟨rb, 0, none⟩) (c + 2) rc') ∧ c + 2 ≤ rc' ∧ rc' ≤ maxLen ∧ (∀ i, wz.frozen? ⟨rb, i, none⟩ = false) ∧ wz.cell? ⟨rb, a * 2, none⟩ = some (.int .i64 mt) ∧ wz.cell? ⟨rb, a * 2 + 1, none⟩ = some (.int .i64 md) := by
          intro wz L SZ hL
          obtain ⟨og', oc', hv, -, -, -, n4⟩ := SZ.rows 2 hL (by rw [HML.out]; omega)
          simp only [Value.slice.injEq, Option.some.injEq, Addr.mk.injEq, and_true] at hv
          obtain ⟨rfl, -, rfl⟩ := hv
          obtain ⟨rb, rc', r1, r2, r3, rf, r5⟩ := n4 k row HGET.out (by rw [HRL.out]; omega)
          rw [HRL.out] at r1 r2
          obtain ⟨zs, s1, s2⟩ := r5 a ⟨mt, md⟩ HGM.out
          obtain ⟨rfl, -, -⟩ := rd_move2 s1
          exact ⟨rb, rc', r1, r2, r3, rf, by have h := s2 0 _ rfl; rw [show moveE.size = 2 from rfl] at h; simpa using h, by have h := s2 1 _ rfl; rw [show moveE.size = 2 from rfl] at h; simpa using h⟩
        have CO := Lib.hid cellsOf
        clear cellsOf
        obtain ⟨rb, rc', r1, r2, r3, rf, s0, s1⟩ := CO.out w3 _ S10 rfl
        have x2 := (S10.blk 3 rfl).cell 2 rfl
        have i1 : (0 : Int) ≤ (k : Int) := by omega
        have i2 : (k : Int) < (n : Int) := by omega
        have i3 : (0 : Int) ≤ (a : Int) := by omega
        have i4 : (a : Int) < ((c + 2 : Nat) : Int) := by omega
        by_cases hmt : mt = -2
        case neg =>
          have tA : (mt == -2) = false := beq_eq_false_iff_ne.2 hmt
          clear hmt
          go_wp2
          go_roundw
          case rel => exact ⟨a + 1, _, _, _, _, M, by omega, rfl, by go_num, S10.moreSrc (by have := HK1.out; omega), HM, HR2⟩
          case measure => simp [intOf]; omega
        subst hmt
        go_wp2_with fail
        refine (oneP_any _ q (K1 + 1) 2 v w0 w3 ⟨by decide, by decide⟩ (by omega) hr S10).mono ?_
        rintro e w6 ⟨b3, rfl, S11⟩
        clear S10 r1 r2 r3 rf s0 s1 x2
        cases b3
        case false =>
          go_wp2
          go_roundw
          case rel => exact ⟨a + 1, _, _, _, _, M, by omega, rfl, by go_num, S11.moreSrc (by have := HK1.out; omega), HM, HR2⟩
          case measure => simp [intOf]; omega
        case true =>
          obtain ⟨rb, rc', r1, r2, r3, rf, s0, s1⟩ := CO.out w6 _ S11 rfl
          have x2 := (S11.blk 3 rfl).cell 2 rfl
          have hmd : md = 0 := by
            have h := HM.out.ok row (List.mem_of_getElem? HGET.out)
            unfold mrowOk at h
            rw [Bool.and_eq_true] at h
            have := List.all_eq_true.1 h.2 a (List.mem_range.2 (by rw [HRL.out]; omega))
            rw [HGM.out] at this
            exact moveOk_two this
          have SM := (S11.selM 3 [2, 0, 1]).setMoveTo k row HGET.out r1 a (-1) md s1 ⟨by decide, by decide⟩ (by rw [hmd]; exact ⟨by decide, by decide⟩)
          have HM2 := Lib.hid (HM.out.setTo k a row md HGET.out HGM.out)
          clear hmd
          go_wp2
          go_roundw
          case rel => exact ⟨a + 1, _, _, _, _, _, by omega, rfl, by go_num, (SM.selM 3 [1, 2, 0]).moreSrc (by have := HK1.out; omega), HM2, HR2⟩
          case measure => simp [intOf]; omega

end Go.Proofs.YtfamhnogpcmbmaaGreatDoor
