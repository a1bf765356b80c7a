/-
  A table drawn from a source of choices: it is a right one.
-/
import Derived.Test.YtbiagkbjhdidjaaDoorDrawK
import Derived.Test.YtbiagkbjhdidjaaDoorTabKK
namespace Go.Proofs.YtbiagkbjhdidjaaDoor
open Go.RowKit

theorem Star.selM {w0 w : World} {L : List Ob} (S : Star w0 w L) (m : Nat) (is : List Nat) (hn : is.Nodup := by decide) (hl : ∀ i, i ∈ is → i < m := by decide) (hm : m ≤ L.length := by simp) : Star w0 w ((is.filterMap fun i => L[i]?) ++ L.drop m) := by
  have hlen : (is.filterMap fun i => L[i]?).length = is.length ∧ ∀ k : Nat, (is.filterMap fun i => L[i]?)[k]? = (is[k]?).bind fun i => L[i]? := by
    clear hn
    induction is with
    | nil => exact ⟨rfl, fun k => by simp⟩
    | cons i is ih =>
      obtain ⟨i1, i2⟩ := ih (fun j hj => hl j (by simp [hj]))
      have hi := hl i (by simp)
      rw [List.filterMap_cons, List.getElem?_eq_getElem (by omega)]
      refine ⟨by simp [i1], fun k => ?_⟩
      cases k with
      | zero => simp [List.getElem?_eq_getElem (show i < L.length by omega)]
      | succ k => simpa using i2 k
  obtain ⟨e1, e2⟩ := hlen
  refine S.reidx (fun k => if k < is.length then is[k]?.getD 0 else k - is.length + m) (fun k Q hQ => ?_) (fun i j hi hj hij => ?_)
  · by_cases hk : k < is.length
    · rw [if_pos hk]
      rw [List.getElem?_append_left (by rw [e1]; exact hk), e2, List.getElem?_eq_getElem hk] at hQ
      rw [List.getElem?_eq_getElem hk]
      exact hQ
    · rw [if_neg hk]
      rw [List.getElem?_append_right (by rw [e1]; omega), e1, List.getElem?_drop] at hQ
      rw [Nat.add_comm]
      exact hQ
  · have hv : ∀ k, k < is.length → is[k]?.getD 0 < m := fun k hk => by rw [List.getElem?_eq_getElem hk]; exact hl _ (List.getElem_mem hk)
    by_cases h1 : i < is.length
    · by_cases h2 : j < is.length
      · rw [if_pos h1, if_pos h2, List.getElem?_eq_getElem h1, List.getElem?_eq_getElem h2]
        have hp := List.pairwise_iff_getElem.1 hn
        simp only [Option.getD_some]
        rcases Nat.lt_trichotomy i j with h | h | h
        · exact hp i j h1 h2 h
        · exact absurd h hij
        · exact fun e => hp j i h2 h1 h e.symm
      · rw [if_pos h1, if_neg h2]
        have := hv i h1
        omega
    · by_cases h2 : j < is.length
      · rw [if_neg h1, if_pos h2]
        have := hv j h2
        omega
      · rw [if_neg h1, if_neg h2]
        omega

structure TwoEx (n k : Nat) (L R : List Ext) : Prop where
  l : L.length = min k n
  r : R.length = k - n
  le : ∀ e, e ∈ L → exitOk n e
  re : ∀ e, e ∈ R → exitOk n e

set_option maxHeartbeats 8000000 in
set_option maxRecDepth 100000 in
theorem l03Drawn_any (ps : List Ob) (q K n : Nat) (v : Value) (w0 w : World) (hn1 : 1 ≤ n) (hn : n ≤ 5) (hK : K ≤ 1000) (hr : SrcIs w0 v) (S : Star w0 w (oSrc q v K :: ps)) :
    Calls Tryd.prog 14 #[.pointer (some ⟨q, 0, none⟩), .int .i64 (n : Nat)] w (fun e w' => ∃ (T : Table) (cs : List Value), e = .returned (.agg cs.toArray) ∧ TabOk n T ∧ ∃ K' : Nat, Star w0 w' (oE tabE cs T :: oSrc q v K' :: ps)) := by
  have S0 := (((S.alloc (cs := #[.slice none 0 0, .slice none 0 0]) (ty := 27)).alloc (cs := #[.slice none 0 0, .slice none 0 0]) (ty := 27)).nils exitE 53).nils exitE 53
  rw [World.size_alloc] at S0
  have wm : IntKind.i64.wrap (2 * (n : Int)) = 2 * (n : Int) := IntWalk.i64_in _ ⟨by omega, by omega⟩
  clear S
  go_enter Tryd.func14, Tryd.ntmps14
  go_wp2
  generalize hW : (w.alloc _).alloc _ = w1 at S0 ⊢
  obtain ⟨g4, hg4⟩ : ∃ g, g = w.heap.size := ⟨_, rfl⟩
  rw [← hg4] at S0 ⊢
  obtain ⟨g5, hg5⟩ : ∃ g, g = g4 + 1 := ⟨_, rfl⟩
  rw [← hg5] at S0 ⊢
  clear hW hg4 hg5
  have S : Star w0 w1 (oB g5 [.slice none 0 0, .slice none 0 0] 27 :: oE exitsE [.slice none 0 0] [] :: oE exitsE [.slice none 0 0] [] :: oSrc q v (K + 4 * 0) :: oB g4 [.slice none 0 0, .slice none 0 0] 27 :: ps) := S0.selM 5 [2, 0, 1, 4, 3]
  clear S0
  go_loopw [6, 7] (fun vk _ wr => ∃ (k : Nat) (la : Option Addr) (ln lc : Nat) (ra : Option Addr) (rn rc : Nat) (L R : List Ext), k ≤ 2 * n ∧ vk = .int .i64 k ∧ Star w0 wr (oB g5 [.slice la ln lc, .slice ra rn rc] 27 :: oE exitsE [.slice la ln lc] L :: oE exitsE [.slice ra rn rc] R :: oSrc q v (K + 4 * k) :: oB g4 [.slice none 0 0, .slice none 0 0] 27 :: ps) ∧ Hid (TwoEx n k L R)) (fun vk _ _ => 2 * n - (intOf vk).toNat)
  case atStart => exact ⟨0, _, _, _, _, _, _, [], [], Nat.zero_le _, rfl, S, Lib.hid ⟨by simp, by simp, fun e he => (by cases he), fun e he => (by cases he)⟩⟩
  case round =>
    clear S
    obtain ⟨k, la, ln, lc, ra, rn, rc, L, R, hk, rfl, S, HTW⟩ := hrel
    by_cases hkn : (k : Int) < 2 * (n : Int)
    case neg =>
      obtain rfl : k = 2 * n := by omega
      have z0 := (S.blk 0 rfl).cell 0 rfl
      have z1 := (S.blk 0 rfl).cell 1 rfl
      have A1 := S.blk 4 rfl
      have y0 := A1.cell 0 rfl
      have y1 := A1.cell 1 rfl
      have yf := A1.free
      clear A1
      go_wp2
      generalize hW : (wr.setCell _ _).setCell _ _ = w9
      have S9 : Star w0 w9 _ := hW ▸ (((S.selM 5 [4, 1, 2, 3]).set 0 (.slice la ln lc)).set 1 (.slice ra rn rc))
      have A3 := S9.blk 0 rfl
      have r0 := A3.cell 0 rfl
      have r1 := A3.cell 1 rfl
      have hTW := HTW.out
      exact bodyPost_ret (v := .agg #[.slice la ln lc, .slice ra rn rc]) (by simp [results, Tryd.results14, go_sem, r0, r1]) rfl ⟨⟨L, R⟩, [.slice la ln lc, .slice ra rn rc], rfl, ⟨hn1, by have := hTW.l; simp only; omega, by have := hTW.r; simp only; omega, hTW.le, hTW.re⟩, K + 4 * (2 * n), tab_ow (x := ⟨L, R⟩) (S9.selM 4 [1, 2, 3])⟩
    have hk2 : k < 2 * n := by omega
    have hLl : L.length ≤ 1000000000000 := by have := HTW.out.l; omega
    have hRl : R.length ≤ 1000000000000 := by have := HTW.out.r; omega
    have SA := S.alloc (cs := #[.int .i64 (-1), .int .i64 1]) (ty := 2)
    replace S : Star w0 (wr.alloc (.cells #[.int .i64 (-1), .int .i64 1] 2)) (oSrc q v (K + 4 * k) :: oB wr.heap.size ([-1, 1].map (Value.int .i64)) 2 :: oB g5 [.slice la ln lc, .slice ra rn rc] 27 :: oE exitsE [.slice la ln lc] L :: oE exitsE [.slice ra rn rc] R :: oB g4 [.slice none 0 0, .slice none 0 0] 27 :: ps) := SA.selM 6 [4, 0, 1, 2, 3, 5]
    clear SA
    go_wp2_with fail
    refine (amongP_any _ q (K + 4 * k) wr.heap.size 2 [-1, 1] v w0 _ rfl ⟨by decide, by decide⟩ (by omega) hr S).mono ?_
    rintro e w2 ⟨s, rfl, hs, S2⟩
    clear S
    go_wp2_with fail
    refine (pickP_any _ q (K + 4 * k + 1) n v w0 w2 ⟨by omega, by omega⟩ (by omega) hr S2).mono ?_
    rintro e w3 ⟨t, rfl, ht, S3⟩
    clear S2
    have hok : exitOk n ⟨s, (t : Nat)⟩ := by
      simp only [List.mem_cons, List.not_mem_nil, or_false] at hs
      exact .inr ⟨hs, by simp only; omega, by simp only; omega⟩
    have HOK := Lib.hid hok
    have S4 := S3.alloc (cs := #[.int .i64 s, .int .i64 (t : Nat)]) (ty := 53)
    clear S3 hs ht hok
    go_wp2_with fail
    generalize hW : w3.alloc _ = w4 at S4 ⊢
    obtain ⟨g7, hg7⟩ : ∃ g, g = w3.heap.size := ⟨_, rfl⟩
    rw [← hg7] at S4 ⊢
    clear hW hg7
    replace S4 : Star w0 w4 (oSrc q v (K + 4 * k + 2) :: oB g7 [.int .i64 s, .int .i64 (t : Nat)] 53 :: oB g5 [.slice la ln lc, .slice ra rn rc] 27 :: oE exitsE [.slice la ln lc] L :: oE exitsE [.slice ra rn rc] R :: oB g4 [.slice none 0 0, .slice none 0 0] 27 :: ps) := S4.selM 2 [1, 0]
    refine (oneP_any _ q (K + 4 * k + 2) 4 v w0 w4 ⟨by decide, by decide⟩ (by omega) hr S4).mono ?_
    rintro e w5 ⟨b, rfl, S5⟩
    clear S4
    cases b
    case false =>
      obtain ⟨sF, hsF⟩ : ∃ x : Int, x = s := ⟨_, rfl⟩
      obtain ⟨tF, htF⟩ : ∃ x : Int, x = (t : Nat) := ⟨_, rfl⟩
      have hokF : exitOk n ⟨sF, tF⟩ := by rw [hsF, htF]; exact HOK.out
      rw [← hsF, ← htF] at S5 ⊢
      have S6 : Star w0 w5 (oB g7 [.int .i64 sF, .int .i64 tF] 53 :: oSrc q v (K + 4 * k + 3) :: oB g5 [.slice la ln lc, .slice ra rn rc] 27 :: oE exitsE [.slice la ln lc] L :: oE exitsE [.slice ra rn rc] R :: oB g4 [.slice none 0 0, .slice none 0 0] 27 :: ps) := S5.selM 2 [1, 0]
      replace S6 : Star w0 w5 (oSrc q v (K + 4 * k + 4) :: oB g7 [.int .i64 sF, .int .i64 tF] 53 :: oB g5 [.slice la ln lc, .slice ra rn rc] 27 :: oE exitsE [.slice la ln lc] L :: oE exitsE [.slice ra rn rc] R :: oB g4 [.slice none 0 0, .slice none 0 0] 27 :: ps) := (S6.selM 2 [1, 0]).moreSrc (by omega)
      replace S6 := S6.selM 6 [1, 0, 2, 3, 4, 5]
      clear S5 HOK hsF htF
      obtain ⟨w6, hw6⟩ : ∃ w6, w6 = w5 := ⟨_, rfl⟩
      rw [← hw6] at S6 ⊢
      clear hw6
      have HOKF := Lib.hid hokF
      clear hokF
      rcases Nat.lt_or_ge k n with hkn2 | hkn2
      · have hc : (k : Int) < (n : Int) := by omega
        have hTW : TwoEx n (k + 1) (L ++ [⟨sF, tF⟩]) R := by
          have h := HTW.out
          refine ⟨by rw [List.length_append, h.l]; show _ + 1 = _; omega, by rw [h.r]; omega, fun e he => ?_, h.re⟩
          rcases List.mem_append.1 he with he | he
          · exact h.le e he
          · rw [List.mem_singleton.1 he]; exact HOKF.out
        have HTW2 := Lib.hid hTW
        clear hTW
        have x0 := (S6.blk 0 rfl).cell 0 rfl
        have x1 := (S6.blk 0 rfl).cell 1 rfl
        have z0 := (S6.blk 2 rfl).cell 0 rfl
        have SA : Star w0 (w6.alloc (.cells #[.int .i64 sF, .int .i64 tF] 53)) (oE exitsE [.slice la ln lc] L :: oE exitE [.int .i64 sF, .int .i64 tF] ⟨sF, tF⟩ :: oB g5 [.slice la ln lc, .slice ra rn rc] 27 :: oE exitsE [.slice ra rn rc] R :: oSrc q v (K + 4 * k + 4) :: oB g4 [.slice none 0 0, .slice none 0 0] 27 :: ps) := ((S6.alloc (cs := #[.int .i64 sF, .int .i64 tF]) (ty := 53)).exit HOKF.out (by omega)).selM 8 [5, 0, 4, 6, 3, 7]
        go_wp2_with (at_builtin; refine st1_ExitS SA rfl rfl rfl rfl cell_a1 (one_mem2 rfl rfl) hLl ?_; intro ja jn jc w9 S9; have z0 := (S9.blk 1 rfl).cell 0 rfl; have zf := (S9.blk 1 rfl).free)
        have S10 := ((S9.selM 5 [1, 0, 2, 3, 4]).set 0 (.slice ja jn jc))
        go_roundw
        case rel => exact ⟨k + 1, _, _, _, _, _, _, _, _, by omega, by go_num, S10, HTW2⟩
        case measure => simp [intOf]; omega
      · have hc : ¬ (k : Int) < (n : Int) := by omega
        have hTW : TwoEx n (k + 1) L (R ++ [⟨sF, tF⟩]) := by
          have h := HTW.out
          refine ⟨by rw [h.l]; omega, by rw [List.length_append, h.r]; show _ + 1 = _; omega, h.le, fun e he => ?_⟩
          rcases List.mem_append.1 he with he | he
          · exact h.re e he
          · rw [List.mem_singleton.1 he]; exact HOKF.out
        have HTW2 := Lib.hid hTW
        clear hTW
        have x0 := (S6.blk 0 rfl).cell 0 rfl
        have x1 := (S6.blk 0 rfl).cell 1 rfl
        have z1 := (S6.blk 2 rfl).cell 1 rfl
        have SA : Star w0 (w6.alloc (.cells #[.int .i64 sF, .int .i64 tF] 53)) (oE exitsE [.slice ra rn rc] R :: oE exitE [.int .i64 sF, .int .i64 tF] ⟨sF, tF⟩ :: oB g5 [.slice la ln lc, .slice ra rn rc] 27 :: oE exitsE [.slice la ln lc] L :: oSrc q v (K + 4 * k + 4) :: oB g4 [.slice none 0 0, .slice none 0 0] 27 :: ps) := ((S6.alloc (cs := #[.int .i64 sF, .int .i64 tF]) (ty := 53)).exit HOKF.out (by omega)).selM 8 [6, 0, 4, 5, 3, 7]
        go_wp2_with (at_builtin; refine st1_ExitS SA rfl rfl rfl rfl cell_a1 (one_mem2 rfl rfl) hRl ?_; intro ja jn jc w9 S9; have z1 := (S9.blk 1 rfl).cell 1 rfl; have zf := (S9.blk 1 rfl).free)
        have S10 := ((S9.selM 5 [1, 2, 0, 3, 4]).set 1 (.slice ja jn jc))
        go_roundw
        case rel => exact ⟨k + 1, _, _, _, _, _, _, _, _, by omega, by go_num, S10, HTW2⟩
        case measure => simp [intOf]; omega
    case true =>
      go_wp2_with fail
      refine (pickP_any _ q (K + 4 * k + 3) 3 v w0 w5 ⟨by decide, by decide⟩ (by omega) hr S5).mono ?_
      rintro e w6 ⟨y, rfl, hy, S6⟩
      clear S5
      obtain ⟨sF, hsF⟩ : ∃ x : Int, x = 0 := ⟨_, rfl⟩
      obtain ⟨tF, htF⟩ : ∃ x : Int, x = -1 - (y : Int) := ⟨_, rfl⟩
      have hokF : exitOk n ⟨sF, tF⟩ := .inl ⟨hsF, by simp only; omega, by simp only; omega⟩
      have wy : IntKind.i64.wrap (-1 - (y : Int)) = tF := by rw [htF]; exact IntWalk.i64_in _ ⟨by omega, by omega⟩
      have b0 := (S6.blk 1 rfl).cell 0 rfl
      have b1 := (S6.blk 1 rfl).cell 1 rfl
      have bf := (S6.blk 1 rfl).free
      have HSF := Lib.hid hsF
      clear htF hsF HOK
      go_upto_region 8 with fail
      generalize hW : (w6.setCell _ _).setCell _ _ = w7
      have S7 : Star w0 w7 _ := hW ▸ (((S6.selM 2 [1, 0]).set 0 (.int .i64 0)).set 1 (.int .i64 tF))
      rw [← HSF.out] at S7
      clear hW b0 b1 bf S6 wy hy
      obtain ⟨w6, hw6⟩ : ∃ w6, w6 = w7 := ⟨_, rfl⟩
      rw [← hw6] at S7 ⊢
      have S6 : Star w0 w6 (oB g7 [.int .i64 sF, .int .i64 tF] 53 :: oSrc q v (K + 4 * k + 4) :: oB g5 [.slice la ln lc, .slice ra rn rc] 27 :: oE exitsE [.slice la ln lc] L :: oE exitsE [.slice ra rn rc] R :: oB g4 [.slice none 0 0, .slice none 0 0] 27 :: ps) := S7
      clear hw6 S7
      have HOKF := Lib.hid hokF
      clear hokF
      rcases Nat.lt_or_ge k n with hkn2 | hkn2
      · have hc : (k : Int) < (n : Int) := by omega
        have hTW : TwoEx n (k + 1) (L ++ [⟨sF, tF⟩]) R := by
          have h := HTW.out
          refine ⟨by rw [List.length_append, h.l]; show _ + 1 = _; omega, by rw [h.r]; omega, fun e he => ?_, h.re⟩
          rcases List.mem_append.1 he with he | he
          · exact h.le e he
          · rw [List.mem_singleton.1 he]; exact HOKF.out
        have HTW2 := Lib.hid hTW
        clear hTW
        have x0 := (S6.blk 0 rfl).cell 0 rfl
        have x1 := (S6.blk 0 rfl).cell 1 rfl
        have z0 := (S6.blk 2 rfl).cell 0 rfl
        have SA : Star w0 (w6.alloc (.cells #[.int .i64 sF, .int .i64 tF] 53)) (oE exitsE [.slice la ln lc] L :: oE exitE [.int .i64 sF, .int .i64 tF] ⟨sF, tF⟩ :: oB g5 [.slice la ln lc, .slice ra rn rc] 27 :: oE exitsE [.slice ra rn rc] R :: oSrc q v (K + 4 * k + 4) :: oB g4 [.slice none 0 0, .slice none 0 0] 27 :: ps) := ((S6.alloc (cs := #[.int .i64 sF, .int .i64 tF]) (ty := 53)).exit HOKF.out (by omega)).selM 8 [5, 0, 4, 6, 3, 7]
        go_wp2_with (at_builtin; refine st1_ExitS SA rfl rfl rfl rfl cell_a1 (one_mem2 rfl rfl) hLl ?_; intro ja jn jc w9 S9; have z0 := (S9.blk 1 rfl).cell 0 rfl; have zf := (S9.blk 1 rfl).free)
        have S10 := ((S9.selM 5 [1, 0, 2, 3, 4]).set 0 (.slice ja jn jc))
        go_roundw
        case rel => exact ⟨k + 1, _, _, _, _, _, _, _, _, by omega, by go_num, S10, HTW2⟩
        case measure => simp [intOf]; omega
      · have hc : ¬ (k : Int) < (n : Int) := by omega
        have hTW : TwoEx n (k + 1) L (R ++ [⟨sF, tF⟩]) := by
          have h := HTW.out
          refine ⟨by rw [h.l]; omega, by rw [List.length_append, h.r]; show _ + 1 = _; omega, h.le, fun e he => ?_⟩
          rcases List.mem_append.1 he with he | he
          · exact h.re e he
          · rw [List.mem_singleton.1 he]; exact HOKF.out
        have HTW2 := Lib.hid hTW
        clear hTW
        have x0 := (S6.blk 0 rfl).cell 0 rfl
        have x1 := (S6.blk 0 rfl).cell 1 rfl
        have z1 := (S6.blk 2 rfl).cell 1 rfl
        have SA : Star w0 (w6.alloc (.cells #[.int .i64 sF, .int .i64 tF] 53)) (oE exitsE [.slice ra rn rc] R :: oE exitE [.int .i64 sF, .int .i64 tF] ⟨sF, tF⟩ :: oB g5 [.slice la ln lc, .slice ra rn rc] 27 :: oE exitsE [.slice la ln lc] L :: oSrc q v (K + 4 * k + 4) :: oB g4 [.slice none 0 0, .slice none 0 0] 27 :: ps) := ((S6.alloc (cs := #[.int .i64 sF, .int .i64 tF]) (ty := 53)).exit HOKF.out (by omega)).selM 8 [6, 0, 4, 5, 3, 7]
        go_wp2_with (at_builtin; refine st1_ExitS SA rfl rfl rfl rfl cell_a1 (one_mem2 rfl rfl) hRl ?_; intro ja jn jc w9 S9; have z1 := (S9.blk 1 rfl).cell 1 rfl; have zf := (S9.blk 1 rfl).free)
        have S10 := ((S9.selM 5 [1, 2, 0, 3, 4]).set 1 (.slice ja jn jc))
        go_roundw
        case rel => exact ⟨k + 1, _, _, _, _, _, _, _, _, by omega, by go_num, S10, HTW2⟩
        case measure => simp [intOf]; omega

set_option maxHeartbeats 4000000 in
theorem A2Table_any (n : Nat) (v : Value) (w : World) (hn1 : 1 ≤ n) (hn : n ≤ 5) (hr : SrcIs w v) :
    Calls Tryd.prog 6 #[v, .int .i64 (n : Nat)] w (fun e w' => ∃ (T : Table), TabOk n T ∧ MakesS tabE id T w e w') := by
  have hv : ∃ a n c, v = .slice a n c := by
    obtain ⟨code, hr⟩ := hr
    obtain ⟨a, cap, rfl, -⟩ := rd_bytes hr
    exact ⟨a, _, cap, rfl⟩
  obtain ⟨va, vn, vc, rfl⟩ := hv
  have S := (Star.nil w).alloc (cs := #[.slice none 0 0, .slice none 0 0]) (ty := 27)
  have HR := Lib.hid hr
  clear hr
  go_enter Tryd.func6, Tryd.ntmps6
  go_wp2_with fail
  generalize hW : w.alloc _ = w0 at S ⊢
  obtain ⟨g2, hg2⟩ : ∃ g, g = w.heap.size := ⟨_, rfl⟩
  rw [← hg2] at S ⊢
  clear hW hg2
  refine (fromP_any _ w w0 _ HR.out S).mono ?_
  rintro e w1 ⟨q, rfl, S1⟩
  go_wp2_with fail
  refine (l03Drawn_any _ q 0 n _ w w1 hn1 hn (by omega) HR.out S1).mono ?_
  rintro e w2 ⟨T, cs, rfl, hT, K', S2⟩
  have S3 := S2.sel [2, 0]
  obtain ⟨p1, p2, rfl, q1, q2⟩ := rd_Table (S3.rd 1 rfl)
  obtain ⟨la, ln, lc, rfl⟩ := rd_slice q1
  obtain ⟨ra, rn, rc, rfl⟩ := rd_slice q2
  have A3 := S3.blk 0 rfl
  have z0 := A3.cell 0 rfl
  have z1 := A3.cell 1 rfl
  have zf := A3.free
  have HT := Lib.hid hT
  clear A3 q1 q2 S S1 S2 hT
  go_wp2
  generalize hW : (w2.setCell _ _).setCell _ _ = w9
  have S9 : Star w w9 _ := hW ▸ ((S3.set 0 (.slice la ln lc)).set 1 (.slice ra rn rc))
  have A4 := S9.blk 0 rfl
  have r0 := A4.cell 0 rfl
  have r1 := A4.cell 1 rfl
  have S10 := S9.sel [1]
  obtain ⟨f, o, nd, lo⟩ := S10.out
  exact bodyPost_ret (v := .agg #[.slice la ln lc, .slice ra rn rc]) (by simp [results, Tryd.results6, go_sem, r0, r1]) rfl ⟨T, HT.out, [.slice la ln lc, .slice ra rn rc], f, rfl, o, nd, lo, S10.below⟩

end Go.Proofs.YtbiagkbjhdidjaaDoor
