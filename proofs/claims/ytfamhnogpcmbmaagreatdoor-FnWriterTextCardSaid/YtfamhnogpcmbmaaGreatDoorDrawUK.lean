/-
  A turner drawn from a source of choices: it is a right one (written by a program of this claim's own, gen_drawu.py).
-/
import Derived.Test.YtfamhnogpcmbmaaGreatDoorPackA
import Derived.Test.YtfamhnogpcmbmaaGreatDoorPackB
import Derived.Deep.DeepCutAuto
namespace Go.Proofs.YtfamhnogpcmbmaaGreatDoor
open Go.RowKit

theorem Star.selM {w0 w : World} {L : List Ob} (S : Star w0 w L) (m : Nat) (is : List Nat) (hn : is.Nodup := by decide) (hl : ∀ i, i ∈ is → i < m := by decide) (hm : m ≤ L.length := by simp) : Star w0 w ((is.filterMap fun i => L[i]?) ++ L.drop m) := by
  have hlen : (is.filterMap fun i => L[i]?).length = is.length ∧ ∀ k : Nat, (is.filterMap fun i => L[i]?)[k]? = (is[k]?).bind fun i => L[i]? := by
    clear hn
    induction is with
    | nil => exact ⟨rfl, fun k => by simp⟩
    | cons i is ih =>
      obtain ⟨i1, i2⟩ := ih (fun j hj => hl j (by simp [hj]))
      have hi := hl i (by simp)
      rw [List.filterMap_cons, List.getElem?_eq_getElem (by omega)]
      refine ⟨by simp [i1], fun k => ?_⟩
      cases k with
      | zero => simp [List.getElem?_eq_getElem (show i < L.length by omega)]
      | succ k => simpa using i2 k
  obtain ⟨e1, e2⟩ := hlen
  refine S.reidx (fun k => if k < is.length then is[k]?.getD 0 else k - is.length + m) (fun k Q hQ => ?_) (fun i j hi hj hij => ?_)
  · by_cases hk : k < is.length
    · rw [if_pos hk]
      rw [List.getElem?_append_left (by rw [e1]; exact hk), e2, List.getElem?_eq_getElem hk] at hQ
      rw [List.getElem?_eq_getElem hk]
      exact hQ
    · rw [if_neg hk]
      rw [List.getElem?_append_right (by rw [e1]; omega), e1, List.getElem?_drop] at hQ
      rw [Nat.add_comm]
      exact hQ
  · have hv : ∀ k, k < is.length → is[k]?.getD 0 < m := fun k hk => by rw [List.getElem?_eq_getElem hk]; exact hl _ (List.getElem_mem hk)
    by_cases h1 : i < is.length
    · by_cases h2 : j < is.length
      · rw [if_pos h1, if_pos h2, List.getElem?_eq_getElem h1, List.getElem?_eq_getElem h2]
        have hp := List.pairwise_iff_getElem.1 hn
        simp only [Option.getD_some]
        rcases Nat.lt_trichotomy i j with h | h | h
        · exact hp i j h1 h2 h
        · exact absurd h hij
        · exact fun e => hp j i h2 h1 h e.symm
      · rw [if_pos h1, if_neg h2]
        have := hv i h1
        omega
    · by_cases h2 : j < is.length
      · rw [if_neg h1, if_pos h2]
        have := hv j h2
        omega
      · rw [if_neg h1, if_neg h2]
        omega

theorem mv_go {t d n c a : Int} (h1 : 0 ≤ t) (h2 : t < n) (h3 : -1 ≤ d ∧ d ≤ 1) (h4 : ¬ (a = c ∧ d = -1)) (h5 : ¬ (a = c + 1 ∧ d = 1)) : moveOk ⟨t, d⟩ n c a = true := by
  unfold moveOk
  have e1 : within t 0 (n - 1) = true := within_eq ⟨h1, by omega⟩
  have e2 : within d (-1) 1 = true := within_eq h3
  have e3 : (a == c && d == -1) = false := by
    cases h : (a == c && d == -1)
    · rfl
    · rw [Bool.and_eq_true, beq_iff_eq, beq_iff_eq] at h; exact absurd h h4
  have e4 : (a == c + 1 && d == 1) = false := by
    cases h : (a == c + 1 && d == 1)
    · rfl
    · rw [Bool.and_eq_true, beq_iff_eq, beq_iff_eq] at h; exact absurd h h5
  rw [e1, e2, e3, e4]
  simp

theorem mv_stop {t n c a : Int} (h : t = -1 ∨ t = -2) : moveOk ⟨t, 0⟩ n c a = true := by
  unfold moveOk isStopB
  rcases h with rfl | rfl <;> simp

/-- A row in the making. -/
structure RowIs (n c a : Nat) (Row : List Move) : Prop where
  len : Row.length = a
  ok : ∀ i, i < a → moveOk (Row[i]?.getD default) n c (i : Nat) = true

theorem RowIs.snoc {n c a : Nat} {Row : List Move} (h : RowIs n c a Row) {m : Move} (hm : moveOk m n c (a : Nat) = true) : RowIs n c (a + 1) (Row ++ [m]) := by
  refine ⟨by rw [List.length_append, h.len]; rfl, fun i hi => ?_⟩
  by_cases hia : i < a
  · rw [List.getElem?_append_left (by rw [h.len]; exact hia)]
    exact h.ok i hia
  · obtain rfl : i = a := by omega
    rw [List.getElem?_append_right (by rw [h.len]; exact Nat.le_refl _), h.len, Nat.sub_self]
    exact hm

theorem RowIs.done {n c : Nat} {Row : List Move} (h : RowIs n c (c + 2) Row) : mrowOk Row n c = true := by
  unfold mrowOk
  rw [decide_eq_true (by rw [h.len]; omega), Bool.true_and, List.all_eq_true]
  intro k hk
  rw [List.mem_range, h.len] at hk
  exact h.ok k hk

structure RowsIs (n c k : Nat) (M : List (List Move)) : Prop where
  len : M.length = k
  ok : ∀ r, r ∈ M → mrowOk r n c = true

theorem RowsIs.snoc {n c k : Nat} {M : List (List Move)} (h : RowsIs n c k M) {r : List Move} (hr : mrowOk r n c = true) : RowsIs n c (k + 1) (M ++ [r]) := by
  refine ⟨by rw [List.length_append, h.len]; rfl, fun x hx => ?_⟩
  rcases List.mem_append.1 hx with hx | hx
  · exact h.ok x hx
  · rw [List.mem_singleton.1 hx]; exact hr

theorem turn_part {w0 w : World} {ps : List Ob} {v2 : Value} {x : Turner} (S : Star w0 w (oE movessE [v2] x.moves :: ps)) (k0 : -9223372036854775808 ≤ x.letters ∧ x.letters ≤ 9223372036854775807) (k1 : -9223372036854775808 ≤ x.start ∧ x.start ≤ 9223372036854775807) :
    Star w0 w (oE turnE [.int .i64 x.letters, .int .i64 x.start, v2] x :: ps) :=
  S.upd fun f hf nd hl => ⟨f, ow_Turner (r := x) k0 k1 hf, nd, fun b hb => .inl hb, hl, But.refl _ _⟩

theorem movesOf_part {w0 w : World} {ps : List Ob} {a b v : Value} {t : Turner} (S : Star w0 w (oE turnE [a, b, v] t :: ps)) : Star w0 w (oE movessE [v] t.moves :: ps) := S.moves

set_option maxHeartbeats 16000000 in
set_option maxRecDepth 100000 in
theorem l02Drawn_any (ps : List Ob) (q K c most : Nat) (v : Value) (w0 w : World) (hc1 : 1 ≤ c) (hc : c ≤ 3) (hm1 : 1 ≤ most) (hm : most ≤ 4) (hK : K ≤ 1000) (hr : SrcIs w0 v) (S : Star w0 w (oSrc q v K :: ps)) :
    Calls Tryz.prog 39 #[.pointer (some ⟨q, 0, none⟩), .int .i64 (c : Nat), .int .i64 (most : Nat)] w (fun e w' => ∃ (T : Turner) (v2 : Value), e = .returned (.agg #[.int .i64 T.letters, .int .i64 T.start, v2]) ∧ validTurn T = true ∧ T.letters = c ∧ T.moves.length ≤ most ∧ Star w0 w' (oE turnE [.int .i64 T.letters, .int .i64 T.start, v2] T :: oSrc q v (K + 200) :: ps)) := by
  have wc1 : IntKind.i64.wrap ((c : Int) + 1) = (c : Int) + 1 := IntWalk.i64_in _ ⟨by omega, by omega⟩
  have wc2 : IntKind.i64.wrap ((c : Int) + 2) = (c : Int) + 2 := IntWalk.i64_in _ ⟨by omega, by omega⟩
  replace S := (S.alloc (cs := #[.int .i64 0, .int .i64 0, .slice none 0 0]) (ty := 26)).selM 2 [1, 0]
  go_enter Tryz.func39, Tryz.ntmps39
  go_wp2_with fail
  generalize hW : w.alloc _ = w1 at S ⊢
  obtain ⟨g6, hg6⟩ : ∃ g, g = w.heap.size := ⟨_, rfl⟩
  rw [← hg6] at S ⊢
  clear hW hg6
  refine (pickP_any _ q K most v w0 w1 ⟨by omega, by omega⟩ (by omega) hr S).mono ?_
  rintro e w2 ⟨n0, rfl, hn0, S2⟩
  clear S
  obtain ⟨n, hnn⟩ : ∃ n, n = 1 + n0 := ⟨_, rfl⟩
  have wn : IntKind.i64.wrap (1 + (n0 : Int)) = (n : Int) := by rw [hnn, Int.natCast_add]; exact IntWalk.i64_in _ ⟨by omega, by omega⟩
  have hn1 : 1 ≤ n := by omega
  have hnm : n ≤ most := by omega
  have hn4 : n ≤ 4 := by omega
  clear hnn hn0
  go_wp2_with fail
  refine (pickP_any _ q (K + 1) n v w0 w2 ⟨by omega, by omega⟩ (by omega) hr S2).mono ?_
  rintro e w3 ⟨st, rfl, hst, S3⟩
  clear S2
  have hstn : st < n := by omega
  replace S3 := (S3.alloc (cs := #[.int .i64 (c : Nat), .int .i64 (st : Nat), .slice none 0 0]) (ty := 26)).nils movesE 60
  go_upto_region 3 with fail
  generalize hW : w3.alloc _ = w4 at S3 ⊢
  obtain ⟨g8, hg8⟩ : ∃ g, g = w3.heap.size := ⟨_, rfl⟩
  rw [← hg8] at S3 ⊢
  clear hW hg8 wn hst
  have S : Star w0 w4 (oSrc q v (K + 2 + 40 * 0) :: oB g8 [.int .i64 (c : Nat), .int .i64 (st : Nat), .slice none 0 0] 26 :: oE movessE [.slice none 0 0] [] :: oB g6 [.int .i64 0, .int .i64 0, .slice none 0 0] 26 :: ps) := S3.selM 4 [2, 1, 0, 3]
  clear S3
  go_wp2
  go_loopw [9, 10, 11, 12] (fun vk _ _ _ wr => ∃ (k : Nat) (va : Option Addr) (vn vc : Nat) (M : List (List Move)), k ≤ n ∧ vk = .int .i64 k ∧ Star w0 wr (oSrc q v (K + 2 + 40 * k) :: oB g8 [.int .i64 (c : Nat), .int .i64 (st : Nat), .slice va vn vc] 26 :: oE movessE [.slice va vn vc] M :: oB g6 [.int .i64 0, .int .i64 0, .slice none 0 0] 26 :: ps) ∧ Hid (RowsIs n c k M)) (fun vk _ _ _ _ => n - (intOf vk).toNat)
  case atStart => exact ⟨0, _, _, _, [], Nat.zero_le _, rfl, S, Lib.hid ⟨rfl, fun r hr => (by cases hr)⟩⟩
  case round =>
    clear S
    obtain ⟨k, va, vn, vc, M, hk, rfl, S, HM⟩ := hrel
    by_cases hkn : k < n
    case neg =>
      obtain rfl : k = n := by omega
      have x0 := (S.blk 1 rfl).cell 0 rfl
      have x1 := (S.blk 1 rfl).cell 1 rfl
      have x2 := (S.blk 1 rfl).cell 2 rfl
      have A1 := S.blk 3 rfl
      have y0 := A1.cell 0 rfl
      have y1 := A1.cell 1 rfl
      have y2 := A1.cell 2 rfl
      have yf := A1.free
      clear A1
      go_wp2
      generalize hW : ((wr.setCell _ _).setCell _ _).setCell _ _ = w9
      have S9 := (S.selM 4 [3, 2, 0]).set3 rfl hW
      have A3 := S9.blk 0 rfl
      have r0 := A3.cell 0 rfl
      have r1 := A3.cell 1 rfl
      have r2 := A3.cell 2 rfl
      have hM := HM.out
      have hmv : (⟨(c : Nat), (st : Nat), M⟩ : Turner).moves = M := rfl
      have hval : validTurn ⟨(c : Nat), (st : Nat), M⟩ = true := by
        unfold validTurn
        simp only
        rw [hM.len, within_eq ⟨by omega, by omega⟩, within_eq ⟨by omega, by omega⟩, within_eq ⟨by omega, by omega⟩, Bool.true_and, Bool.true_and, Bool.true_and, List.all_eq_true]
        exact hM.ok
      exact bodyPost_ret (v := .agg #[.int .i64 (c : Nat), .int .i64 (st : Nat), .slice va vn vc]) (by simp [results, Tryz.results39, go_sem, r0, r1, r2]) rfl ⟨⟨(c : Nat), (st : Nat), M⟩, .slice va vn vc, rfl, hval, rfl, by rw [hmv, hM.len]; exact hnm, ((turn_part (x := ⟨(c : Nat), (st : Nat), M⟩) (S9.selM 3 [1, 2]) ⟨by show _ ≤ ((c : Nat) : Int); omega, by show ((c : Nat) : Int) ≤ _; omega⟩ ⟨by show _ ≤ ((st : Nat) : Int); omega, by show ((st : Nat) : Int) ≤ _; omega⟩).selM 2 [1, 0]).moreSrc (by omega) |>.selM 2 [1, 0]⟩
    have hMl : M.length ≤ 1000000000000 := by have := HM.out.len; omega
    have SB := (S.alloc (cs := #[]) (ty := 75)).lit0 (α := Move) (E := moveE)
    go_upto_region 7 with fail
    generalize hW : wr.alloc _ = w5 at SB ⊢
    obtain ⟨g10, hg10⟩ : ∃ g, g = wr.heap.size := ⟨_, rfl⟩
    rw [← hg10] at SB ⊢
    clear hW hg10 S
    have S : Star w0 w5 (oSrc q v (K + 2 + 40 * k + 8 * 0) :: oE movesE [.slice (some ⟨g10, 0, none⟩) 0 0] [] :: oB g8 [.int .i64 (c : Nat), .int .i64 (st : Nat), .slice va vn vc] 26 :: oE movessE [.slice va vn vc] M :: oB g6 [.int .i64 0, .int .i64 0, .slice none 0 0] 26 :: ps) := SB.selM 3 [1, 0, 2]
    clear SB
    go_wp2
    go_loopw [10, 11, 12] (fun vr va' _ wr => ∃ (a : Nat) (ra : Option Addr) (rn rc : Nat) (Row : List Move), a ≤ c + 2 ∧ vr = .slice ra rn rc ∧ va' = .int .i64 a ∧ Star w0 wr (oSrc q v (K + 2 + 40 * k + 8 * a) :: oE movesE [.slice ra rn rc] Row :: oB g8 [.int .i64 (c : Nat), .int .i64 (st : Nat), .slice va vn vc] 26 :: oE movessE [.slice va vn vc] M :: oB g6 [.int .i64 0, .int .i64 0, .slice none 0 0] 26 :: ps) ∧ Hid (RowIs n c a Row)) (fun _ va' _ _ => c + 2 - (intOf va').toNat)
    case atStart => exact ⟨0, _, _, _, [], Nat.zero_le _, rfl, rfl, S, Lib.hid ⟨rfl, fun i hi => absurd hi (Nat.not_lt_zero _)⟩⟩
    case round =>
      clear S
      obtain ⟨a, ra, rn, rc, Row, ha, rfl, rfl, S, HR⟩ := hrel
      by_cases hac : a < c + 2
      case neg =>
        obtain rfl : a = c + 2 := by omega
        have hl : ¬ (((c + 2 : Nat) : Int) < (c : Int) + 2) := by omega
        have hrow := HR.out.done
        have HM2 := Lib.hid (HM.out.snoc hrow)
        have z2 := (S.blk 2 rfl).cell 2 rfl
        have SA : Star w0 (wr.alloc (.cells #[.slice ra rn rc] 60)) (oE movessE [.slice va vn vc] M :: oE movesE [.slice ra rn rc] Row :: oSrc q v (K + 2 + 40 * k + 8 * (c + 2)) :: oB g8 [.int .i64 (c : Nat), .int .i64 (st : Nat), .slice va vn vc] 26 :: oB g6 [.int .i64 0, .int .i64 0, .slice none 0 0] 26 :: ps) := (S.alloc (cs := #[.slice ra rn rc]) (ty := 60)).selM 6 [4, 2, 1, 3, 5]
        clear hrow S
        go_wp2_with (at_builtin; refine st1_MoveSS SA rfl rfl rfl rfl cell_a1 (one_mem rfl) hMl ?_; intro ja jn jc w9 S9; have z2 := (S9.blk 2 rfl).cell 2 rfl; have zf := (S9.blk 2 rfl).free)
        have S10 := ((S9.selM 4 [2, 0, 1, 3]).set 2 (.slice ja jn jc)).selM 4 [2, 0, 1, 3]
        go_roundw
        case rel => exact ⟨k + 1, _, _, _, _, by omega, by go_num, S10.moreSrc (by omega), HM2⟩
        case measure => simp [intOf]; omega
      have hl : (a : Int) < (c : Int) + 2 := by omega
      have hRl : Row.length ≤ 1000000000000 := by have := HR.out.len; omega
      obtain ⟨K1, hK1⟩ : ∃ K1, K1 = K + 2 + 40 * k + 8 * a := ⟨_, rfl⟩
      have hK1b : K1 ≤ 2000 := by omega
      have HK1 := Lib.hid (show K1 + 8 ≤ K + 2 + 40 * k + 8 * (a + 1) by omega)
      rw [← hK1] at S
      clear hK1
      go_wp2_with fail
      refine (pickP_any _ q K1 n v w0 wr ⟨by omega, by omega⟩ (by omega) hr S).mono ?_
      rintro e w2 ⟨t, rfl, ht, S2⟩
      clear S
      have htn : t < n := by omega
      have S3 : Star w0 (w2.alloc (.cells #[.int .i64 1, .int .i64 1, .int .i64 1, .int .i64 (-1), .int .i64 (-1), .int .i64 0] 2)) (oSrc q v (K1 + 1) :: oB w2.heap.size ([1, 1, 1, -1, -1, 0].map (Value.int .i64)) 2 :: oE movesE [.slice ra rn rc] Row :: oB g8 [.int .i64 (c : Nat), .int .i64 (st : Nat), .slice va vn vc] 26 :: oE movessE [.slice va vn vc] M :: oB g6 [.int .i64 0, .int .i64 0, .slice none 0 0] 26 :: ps) := (S2.alloc (cs := #[.int .i64 1, .int .i64 1, .int .i64 1, .int .i64 (-1), .int .i64 (-1), .int .i64 0]) (ty := 2)).selM 2 [1, 0]
      clear S2 ht
      go_wp2_with fail
      refine (amongP_any _ q (K1 + 1) w2.heap.size 6 [1, 1, 1, -1, -1, 0] v w0 _ rfl ⟨by decide, by decide⟩ (by omega) hr S3).mono ?_
      rintro e w3 ⟨d, rfl, hd, S4⟩
      clear S3
      have hd1 : -1 ≤ d ∧ d ≤ 1 := by
        simp only [List.mem_cons, List.not_mem_nil, or_false] at hd
        omega
      have S5 : Star w0 (w3.alloc (.cells #[.int .i64 (t : Nat), .int .i64 d] 75)) (oSrc q v (K1 + 2) :: oB w3.heap.size [.int .i64 (t : Nat), .int .i64 d] 75 :: oE movesE [.slice ra rn rc] Row :: oB g8 [.int .i64 (c : Nat), .int .i64 (st : Nat), .slice va vn vc] 26 :: oE movessE [.slice va vn vc] M :: oB g6 [.int .i64 0, .int .i64 0, .slice none 0 0] 26 :: ps) := (S4.alloc (cs := #[.int .i64 (t : Nat), .int .i64 d]) (ty := 75)).selM 2 [1, 0]
      clear S4 hd
      go_upto_region 11 with fail
      generalize hW : w3.alloc _ = w4 at S5 ⊢
      obtain ⟨g12, hg12⟩ : ∃ g, g = w3.heap.size := ⟨_, rfl⟩
      rw [← hg12] at S5 ⊢
      clear hW hg12
      by_cases hA : a < c
      · have tA : ((a : Int) == (c : Int)) = false := beq_eq_false_iff_ne.2 (by omega)
        have tB : ((a : Int) == (c : Int) + 1) = false := beq_eq_false_iff_ne.2 (by omega)
        obtain ⟨sF, hsF⟩ : ∃ x : Int, x = (t : Nat) := ⟨_, rfl⟩
        obtain ⟨tF, htF⟩ : ∃ x : Int, x = d := ⟨_, rfl⟩
        have hokF : moveOk ⟨sF, tF⟩ n c (a : Nat) = true := by rw [hsF, htF]; exact mv_go (by omega) (by omega) hd1 (by omega) (by omega)
        have S6 : Star w0 w4 (oSrc q v (K1 + 6) :: oB g12 [.int .i64 sF, .int .i64 tF] 75 :: oE movesE [.slice ra rn rc] Row :: oB g8 [.int .i64 (c : Nat), .int .i64 (st : Nat), .slice va vn vc] 26 :: oE movessE [.slice va vn vc] M :: oB g6 [.int .i64 0, .int .i64 0, .slice none 0 0] 26 :: ps) := by rw [hsF, htF]; exact S5.moreSrc (by omega)
        clear S5 hsF htF hd1 htn
        obtain ⟨w6, hw6⟩ : ∃ w6, w6 = w4 := ⟨_, rfl⟩
        rw [← hw6] at S6 ⊢
        clear hw6
        have HOK := Lib.hid hokF
        clear hokF
        go_wp2_with fail
        refine (oneP_any _ q (K1 + 6) 8 v w0 w6 ⟨by decide, by decide⟩ (by omega) hr S6).mono ?_
        rintro e w10 ⟨b2, rfl, S20⟩
        clear S6
        cases b2
        case false =>
          have x0 := (S20.blk 1 rfl).cell 0 rfl
          have x1 := (S20.blk 1 rfl).cell 1 rfl
          have hbm := moveOk_bdj HOK.out
          simp only at hbm
          have SA : Star w0 (w10.alloc (.cells #[.int .i64 sF, .int .i64 tF] 75)) (oE movesE [.slice ra rn rc] Row :: oE moveE [.int .i64 sF, .int .i64 tF] ⟨sF, tF⟩ :: oSrc q v (K1 + 7) :: oB g8 [.int .i64 (c : Nat), .int .i64 (st : Nat), .slice va vn vc] 26 :: oE movessE [.slice va vn vc] M :: oB g6 [.int .i64 0, .int .i64 0, .slice none 0 0] 26 :: ps) := ((S20.alloc (cs := #[.int .i64 sF, .int .i64 tF]) (ty := 75)).move (x := sF) (y := tF) ⟨by omega, by omega⟩ ⟨by omega, by omega⟩).selM 8 [4, 0, 2, 5, 6, 7]
          have HR2 := Lib.hid (HR.out.snoc HOK.out)
          clear hbm S20
          go_wp2_with (at_builtin; refine st1_MoveS SA rfl rfl rfl rfl cell_a1 (one_mem2 rfl rfl) hRl ?_; intro ja jn jc w11 S21)
          go_roundw
          case rel => exact ⟨a + 1, _, _, _, _, by omega, rfl, by go_num, (S21.selM 2 [1, 0]).moreSrc (by have := HK1.out; omega), HR2⟩
          case measure => simp [intOf]; omega
        case true =>
          go_wp2_with fail
          refine (pickP_any _ q (K1 + 7) 2 v w0 w10 ⟨by decide, by decide⟩ (by omega) hr S20).mono ?_
          rintro e w11 ⟨y2, rfl, hy2, S21⟩
          clear S20
          obtain ⟨sG, hsG⟩ : ∃ x : Int, x = -1 - (y2 : Int) := ⟨_, rfl⟩
          have wy2 : IntKind.i64.wrap (-1 - (y2 : Int)) = sG := by rw [hsG]; exact IntWalk.i64_in _ ⟨by omega, by omega⟩
          have hokG : moveOk ⟨sG, 0⟩ n c (a : Nat) = true := mv_stop (by omega)
          have HR2 := Lib.hid (HR.out.snoc hokG)
          have hgb : -9223372036854775808 ≤ sG ∧ sG ≤ 9223372036854775807 := ⟨by omega, by omega⟩
          have b0 := (S21.blk 1 rfl).cell 0 rfl
          have b1 := (S21.blk 1 rfl).cell 1 rfl
          have bf := (S21.blk 1 rfl).free
          clear hsG hy2 hokG HOK
          go_upto_region 19 with fail
          generalize hW : (w11.setCell _ _).setCell _ _ = w12
          have S22 : Star w0 w12 _ := hW ▸ ((S21.selM 2 [1, 0]).set 0 (.int .i64 sG)).set 1 (.int .i64 0)
          clear hW b0 b1 bf S21 wy2
          have x0 := (S22.blk 0 rfl).cell 0 rfl
          have x1 := (S22.blk 0 rfl).cell 1 rfl
          have SA : Star w0 (w12.alloc (.cells #[.int .i64 sG, .int .i64 0] 75)) (oE movesE [.slice ra rn rc] Row :: oE moveE [.int .i64 sG, .int .i64 0] ⟨sG, 0⟩ :: oSrc q v (K1 + 8) :: oB g8 [.int .i64 (c : Nat), .int .i64 (st : Nat), .slice va vn vc] 26 :: oE movessE [.slice va vn vc] M :: oB g6 [.int .i64 0, .int .i64 0, .slice none 0 0] 26 :: ps) := ((S22.alloc (cs := #[.int .i64 sG, .int .i64 0]) (ty := 75)).move (x := sG) (y := 0) hgb ⟨by decide, by decide⟩).selM 8 [4, 0, 3, 5, 6, 7]
          clear S22
          go_wp2_with (at_builtin; refine st1_MoveS SA rfl rfl rfl rfl cell_a1 (one_mem2 rfl rfl) hRl ?_; intro ja jn jc w13 S23)
          go_roundw
          case rel => exact ⟨a + 1, _, _, _, _, by omega, rfl, by go_num, (S23.selM 2 [1, 0]).moreSrc (by have := HK1.out; omega), HR2⟩
          case measure => simp [intOf]; omega
      by_cases hB : a = c
      · have tA : ((a : Int) == (c : Int)) = true := by rw [hB]; simp
        have tB : ((a : Int) == (c : Int) + 1) = false := beq_eq_false_iff_ne.2 (by omega)
        have S7 : Star w0 (w4.alloc (.cells #[.int .i64 1, .int .i64 1, .int .i64 1, .int .i64 0] 2)) (oSrc q v (K1 + 2) :: oB w4.heap.size ([1, 1, 1, 0].map (Value.int .i64)) 2 :: oB g12 [.int .i64 (t : Nat), .int .i64 d] 75 :: oE movesE [.slice ra rn rc] Row :: oB g8 [.int .i64 (c : Nat), .int .i64 (st : Nat), .slice va vn vc] 26 :: oE movessE [.slice va vn vc] M :: oB g6 [.int .i64 0, .int .i64 0, .slice none 0 0] 26 :: ps) := (S5.alloc (cs := #[.int .i64 1, .int .i64 1, .int .i64 1, .int .i64 0]) (ty := 2)).selM 2 [1, 0]
        clear S5
        have HBB := Lib.hid hB
        clear hB
        go_wp2_with fail
        refine (amongP_any _ q (K1 + 2) w4.heap.size 4 [1, 1, 1, 0] v w0 _ rfl ⟨by decide, by decide⟩ (by omega) hr S7).mono ?_
        rintro e w5 ⟨d2, rfl, hd2, S8⟩
        clear S7
        have hd3 : 0 ≤ d2 ∧ d2 ≤ 1 := by
          simp only [List.mem_cons, List.not_mem_nil, or_false] at hd2
          omega
        have b1 := (S8.blk 1 rfl).cell 1 rfl
        have bf := (S8.blk 1 rfl).free
        go_upto_region 13 with fail
        generalize hW : w5.setCell _ _ = w6
        have S9 : Star w0 w6 _ := hW ▸ (S8.selM 2 [1, 0]).set 1 (.int .i64 d2)
        clear hW b1 bf S8 hd2
        obtain ⟨sF, hsF⟩ : ∃ x : Int, x = (t : Nat) := ⟨_, rfl⟩
        obtain ⟨tF, htF⟩ : ∃ x : Int, x = d2 := ⟨_, rfl⟩
        have hokF : moveOk ⟨sF, tF⟩ n c (a : Nat) = true := by rw [hsF, htF]; have := HBB.out; exact mv_go (by omega) (by omega) ⟨by omega, by omega⟩ (by omega) (by omega)
        have S6 : Star w0 w6 (oSrc q v (K1 + 6) :: oB g12 [.int .i64 sF, .int .i64 tF] 75 :: oE movesE [.slice ra rn rc] Row :: oB g8 [.int .i64 (c : Nat), .int .i64 (st : Nat), .slice va vn vc] 26 :: oE movessE [.slice va vn vc] M :: oB g6 [.int .i64 0, .int .i64 0, .slice none 0 0] 26 :: ps) := by rw [hsF, htF]; exact (S9.selM 2 [1, 0]).moreSrc (by omega)
        clear S9 hsF htF hd1 hd3 htn
        have HOK := Lib.hid hokF
        clear hokF
        go_wp2_with fail
        refine (oneP_any _ q (K1 + 6) 8 v w0 w6 ⟨by decide, by decide⟩ (by omega) hr S6).mono ?_
        rintro e w10 ⟨b2, rfl, S20⟩
        clear S6
        cases b2
        case false =>
          have x0 := (S20.blk 1 rfl).cell 0 rfl
          have x1 := (S20.blk 1 rfl).cell 1 rfl
          have hbm := moveOk_bdj HOK.out
          simp only at hbm
          have SA : Star w0 (w10.alloc (.cells #[.int .i64 sF, .int .i64 tF] 75)) (oE movesE [.slice ra rn rc] Row :: oE moveE [.int .i64 sF, .int .i64 tF] ⟨sF, tF⟩ :: oSrc q v (K1 + 7) :: oB g8 [.int .i64 (c : Nat), .int .i64 (st : Nat), .slice va vn vc] 26 :: oE movessE [.slice va vn vc] M :: oB g6 [.int .i64 0, .int .i64 0, .slice none 0 0] 26 :: ps) := ((S20.alloc (cs := #[.int .i64 sF, .int .i64 tF]) (ty := 75)).move (x := sF) (y := tF) ⟨by omega, by omega⟩ ⟨by omega, by omega⟩).selM 8 [4, 0, 2, 5, 6, 7]
          have HR2 := Lib.hid (HR.out.snoc HOK.out)
          clear hbm S20
          go_wp2_with (at_builtin; refine st1_MoveS SA rfl rfl rfl rfl cell_a1 (one_mem2 rfl rfl) hRl ?_; intro ja jn jc w11 S21)
          go_roundw
          case rel => exact ⟨a + 1, _, _, _, _, by omega, rfl, by go_num, (S21.selM 2 [1, 0]).moreSrc (by have := HK1.out; omega), HR2⟩
          case measure => simp [intOf]; omega
        case true =>
          go_wp2_with fail
          refine (pickP_any _ q (K1 + 7) 2 v w0 w10 ⟨by decide, by decide⟩ (by omega) hr S20).mono ?_
          rintro e w11 ⟨y2, rfl, hy2, S21⟩
          clear S20
          obtain ⟨sG, hsG⟩ : ∃ x : Int, x = -1 - (y2 : Int) := ⟨_, rfl⟩
          have wy2 : IntKind.i64.wrap (-1 - (y2 : Int)) = sG := by rw [hsG]; exact IntWalk.i64_in _ ⟨by omega, by omega⟩
          have hokG : moveOk ⟨sG, 0⟩ n c (a : Nat) = true := mv_stop (by omega)
          have HR2 := Lib.hid (HR.out.snoc hokG)
          have hgb : -9223372036854775808 ≤ sG ∧ sG ≤ 9223372036854775807 := ⟨by omega, by omega⟩
          have b0 := (S21.blk 1 rfl).cell 0 rfl
          have b1 := (S21.blk 1 rfl).cell 1 rfl
          have bf := (S21.blk 1 rfl).free
          clear hsG hy2 hokG HOK
          go_upto_region 19 with fail
          generalize hW : (w11.setCell _ _).setCell _ _ = w12
          have S22 : Star w0 w12 _ := hW ▸ ((S21.selM 2 [1, 0]).set 0 (.int .i64 sG)).set 1 (.int .i64 0)
          clear hW b0 b1 bf S21 wy2
          have x0 := (S22.blk 0 rfl).cell 0 rfl
          have x1 := (S22.blk 0 rfl).cell 1 rfl
          have SA : Star w0 (w12.alloc (.cells #[.int .i64 sG, .int .i64 0] 75)) (oE movesE [.slice ra rn rc] Row :: oE moveE [.int .i64 sG, .int .i64 0] ⟨sG, 0⟩ :: oSrc q v (K1 + 8) :: oB g8 [.int .i64 (c : Nat), .int .i64 (st : Nat), .slice va vn vc] 26 :: oE movessE [.slice va vn vc] M :: oB g6 [.int .i64 0, .int .i64 0, .slice none 0 0] 26 :: ps) := ((S22.alloc (cs := #[.int .i64 sG, .int .i64 0]) (ty := 75)).move (x := sG) (y := 0) hgb ⟨by decide, by decide⟩).selM 8 [4, 0, 3, 5, 6, 7]
          clear S22
          go_wp2_with (at_builtin; refine st1_MoveS SA rfl rfl rfl rfl cell_a1 (one_mem2 rfl rfl) hRl ?_; intro ja jn jc w13 S23)
          go_roundw
          case rel => exact ⟨a + 1, _, _, _, _, by omega, rfl, by go_num, (S23.selM 2 [1, 0]).moreSrc (by have := HK1.out; omega), HR2⟩
          case measure => simp [intOf]; omega
      have hC : a = c + 1 := by omega
      have tA : ((a : Int) == (c : Int)) = false := beq_eq_false_iff_ne.2 (by omega)
      have tB : ((a : Int) == (c : Int) + 1) = true := by rw [hC]; simp
      have S7 : Star w0 (w4.alloc (.cells #[.int .i64 (-1), .int .i64 (-1), .int .i64 0] 2)) (oSrc q v (K1 + 2) :: oB w4.heap.size ([-1, -1, 0].map (Value.int .i64)) 2 :: oB g12 [.int .i64 (t : Nat), .int .i64 d] 75 :: oE movesE [.slice ra rn rc] Row :: oB g8 [.int .i64 (c : Nat), .int .i64 (st : Nat), .slice va vn vc] 26 :: oE movessE [.slice va vn vc] M :: oB g6 [.int .i64 0, .int .i64 0, .slice none 0 0] 26 :: ps) := (S5.alloc (cs := #[.int .i64 (-1), .int .i64 (-1), .int .i64 0]) (ty := 2)).selM 2 [1, 0]
      clear S5 hB
      have HBB := Lib.hid hC
      clear hC
      go_wp2_with fail
      refine (amongP_any _ q (K1 + 2) w4.heap.size 3 [-1, -1, 0] v w0 _ rfl ⟨by decide, by decide⟩ (by omega) hr S7).mono ?_
      rintro e w5 ⟨d2, rfl, hd2, S8⟩
      clear S7
      have hd3 : -1 ≤ d2 ∧ d2 ≤ 0 := by
        simp only [List.mem_cons, List.not_mem_nil, or_false] at hd2
        omega
      have b1 := (S8.blk 1 rfl).cell 1 rfl
      have bf := (S8.blk 1 rfl).free
      go_upto_region 15 with fail
      generalize hW : w5.setCell _ _ = w6
      have S9 : Star w0 w6 _ := hW ▸ (S8.selM 2 [1, 0]).set 1 (.int .i64 d2)
      clear hW b1 bf S8 hd2
      have S10 : Star w0 w6 (oSrc q v (K1 + 3) :: oB g12 [.int .i64 (t : Nat), .int .i64 d2] 75 :: oE movesE [.slice ra rn rc] Row :: oB g8 [.int .i64 (c : Nat), .int .i64 (st : Nat), .slice va vn vc] 26 :: oE movessE [.slice va vn vc] M :: oB g6 [.int .i64 0, .int .i64 0, .slice none 0 0] 26 :: ps) := S9.selM 2 [1, 0]
      clear S9
      go_wp2_with fail
      refine (oneP_any _ q (K1 + 3) 2 v w0 w6 ⟨by decide, by decide⟩ (by omega) hr S10).mono ?_
      rintro e w7 ⟨b1, rfl, S11⟩
      clear S10
      cases b1
      case false =>
        obtain ⟨sF, hsF⟩ : ∃ x : Int, x = (t : Nat) := ⟨_, rfl⟩
        obtain ⟨tF, htF⟩ : ∃ x : Int, x = d2 := ⟨_, rfl⟩
        have hokF : moveOk ⟨sF, tF⟩ n c (a : Nat) = true := by rw [hsF, htF]; have := HBB.out; exact mv_go (by omega) (by omega) ⟨by omega, by omega⟩ (by omega) (by omega)
        have S6 : Star w0 w7 (oSrc q v (K1 + 6) :: oB g12 [.int .i64 sF, .int .i64 tF] 75 :: oE movesE [.slice ra rn rc] Row :: oB g8 [.int .i64 (c : Nat), .int .i64 (st : Nat), .slice va vn vc] 26 :: oE movessE [.slice va vn vc] M :: oB g6 [.int .i64 0, .int .i64 0, .slice none 0 0] 26 :: ps) := by rw [hsF, htF]; exact S11.moreSrc (by omega)
        clear S11 hsF htF hd1 hd3 htn
        obtain ⟨w6, hw6⟩ : ∃ w6, w6 = w7 := ⟨_, rfl⟩
        rw [← hw6] at S6 ⊢
        clear hw6
        have HOK := Lib.hid hokF
        clear hokF
        go_wp2_with fail
        refine (oneP_any _ q (K1 + 6) 8 v w0 w6 ⟨by decide, by decide⟩ (by omega) hr S6).mono ?_
        rintro e w10 ⟨b2, rfl, S20⟩
        clear S6
        cases b2
        case false =>
          have x0 := (S20.blk 1 rfl).cell 0 rfl
          have x1 := (S20.blk 1 rfl).cell 1 rfl
          have hbm := moveOk_bdj HOK.out
          simp only at hbm
          have SA : Star w0 (w10.alloc (.cells #[.int .i64 sF, .int .i64 tF] 75)) (oE movesE [.slice ra rn rc] Row :: oE moveE [.int .i64 sF, .int .i64 tF] ⟨sF, tF⟩ :: oSrc q v (K1 + 7) :: oB g8 [.int .i64 (c : Nat), .int .i64 (st : Nat), .slice va vn vc] 26 :: oE movessE [.slice va vn vc] M :: oB g6 [.int .i64 0, .int .i64 0, .slice none 0 0] 26 :: ps) := ((S20.alloc (cs := #[.int .i64 sF, .int .i64 tF]) (ty := 75)).move (x := sF) (y := tF) ⟨by omega, by omega⟩ ⟨by omega, by omega⟩).selM 8 [4, 0, 2, 5, 6, 7]
          have HR2 := Lib.hid (HR.out.snoc HOK.out)
          clear hbm S20
          go_wp2_with (at_builtin; refine st1_MoveS SA rfl rfl rfl rfl cell_a1 (one_mem2 rfl rfl) hRl ?_; intro ja jn jc w11 S21)
          go_roundw
          case rel => exact ⟨a + 1, _, _, _, _, by omega, rfl, by go_num, (S21.selM 2 [1, 0]).moreSrc (by have := HK1.out; omega), HR2⟩
          case measure => simp [intOf]; omega
        case true =>
          go_wp2_with fail
          refine (pickP_any _ q (K1 + 7) 2 v w0 w10 ⟨by decide, by decide⟩ (by omega) hr S20).mono ?_
          rintro e w11 ⟨y2, rfl, hy2, S21⟩
          clear S20
          obtain ⟨sG, hsG⟩ : ∃ x : Int, x = -1 - (y2 : Int) := ⟨_, rfl⟩
          have wy2 : IntKind.i64.wrap (-1 - (y2 : Int)) = sG := by rw [hsG]; exact IntWalk.i64_in _ ⟨by omega, by omega⟩
          have hokG : moveOk ⟨sG, 0⟩ n c (a : Nat) = true := mv_stop (by omega)
          have HR2 := Lib.hid (HR.out.snoc hokG)
          have hgb : -9223372036854775808 ≤ sG ∧ sG ≤ 9223372036854775807 := ⟨by omega, by omega⟩
          have b0 := (S21.blk 1 rfl).cell 0 rfl
          have b1 := (S21.blk 1 rfl).cell 1 rfl
          have bf := (S21.blk 1 rfl).free
          clear hsG hy2 hokG HOK
          go_upto_region 19 with fail
          generalize hW : (w11.setCell _ _).setCell _ _ = w12
          have S22 : Star w0 w12 _ := hW ▸ ((S21.selM 2 [1, 0]).set 0 (.int .i64 sG)).set 1 (.int .i64 0)
          clear hW b0 b1 bf S21 wy2
          have x0 := (S22.blk 0 rfl).cell 0 rfl
          have x1 := (S22.blk 0 rfl).cell 1 rfl
          have SA : Star w0 (w12.alloc (.cells #[.int .i64 sG, .int .i64 0] 75)) (oE movesE [.slice ra rn rc] Row :: oE moveE [.int .i64 sG, .int .i64 0] ⟨sG, 0⟩ :: oSrc q v (K1 + 8) :: oB g8 [.int .i64 (c : Nat), .int .i64 (st : Nat), .slice va vn vc] 26 :: oE movessE [.slice va vn vc] M :: oB g6 [.int .i64 0, .int .i64 0, .slice none 0 0] 26 :: ps) := ((S22.alloc (cs := #[.int .i64 sG, .int .i64 0]) (ty := 75)).move (x := sG) (y := 0) hgb ⟨by decide, by decide⟩).selM 8 [4, 0, 3, 5, 6, 7]
          clear S22
          go_wp2_with (at_builtin; refine st1_MoveS SA rfl rfl rfl rfl cell_a1 (one_mem2 rfl rfl) hRl ?_; intro ja jn jc w13 S23)
          go_roundw
          case rel => exact ⟨a + 1, _, _, _, _, by omega, rfl, by go_num, (S23.selM 2 [1, 0]).moreSrc (by have := HK1.out; omega), HR2⟩
          case measure => simp [intOf]; omega
      case true =>
        go_wp2_with fail
        refine (pickP_any _ q (K1 + 4) 2 v w0 w7 ⟨by decide, by decide⟩ (by omega) hr S11).mono ?_
        rintro e w8 ⟨y, rfl, hy, S12⟩
        clear S11
        obtain ⟨sF, hsF⟩ : ∃ x : Int, x = -1 - (y : Int) := ⟨_, rfl⟩
        have wy : IntKind.i64.wrap (-1 - (y : Int)) = sF := by rw [hsF]; exact IntWalk.i64_in _ ⟨by omega, by omega⟩
        obtain ⟨tF, htF⟩ : ∃ x : Int, x = 0 := ⟨_, rfl⟩
        have hokF : moveOk ⟨sF, tF⟩ n c (a : Nat) = true := by rw [htF]; exact mv_stop (by omega)
        have b0 := (S12.blk 1 rfl).cell 0 rfl
        have b1 := (S12.blk 1 rfl).cell 1 rfl
        have bf := (S12.blk 1 rfl).free
        have HTF := Lib.hid htF
        clear hsF htF hd1 hd3 htn hy
        go_upto_region 17 with fail
        generalize hW : (w8.setCell _ _).setCell _ _ = w6
        have S13 : Star w0 w6 _ := hW ▸ ((S12.selM 2 [1, 0]).set 0 (.int .i64 sF)).set 1 (.int .i64 0)
        clear hW b0 b1 bf S12 wy
        have S6 : Star w0 w6 (oSrc q v (K1 + 6) :: oB g12 [.int .i64 sF, .int .i64 tF] 75 :: oE movesE [.slice ra rn rc] Row :: oB g8 [.int .i64 (c : Nat), .int .i64 (st : Nat), .slice va vn vc] 26 :: oE movessE [.slice va vn vc] M :: oB g6 [.int .i64 0, .int .i64 0, .slice none 0 0] 26 :: ps) := by rw [HTF.out]; exact (S13.selM 2 [1, 0]).moreSrc (by omega)
        clear S13 HTF
        have HOK := Lib.hid hokF
        clear hokF
        go_wp2_with fail
        refine (oneP_any _ q (K1 + 6) 8 v w0 w6 ⟨by decide, by decide⟩ (by omega) hr S6).mono ?_
        rintro e w10 ⟨b2, rfl, S20⟩
        clear S6
        cases b2
        case false =>
          have x0 := (S20.blk 1 rfl).cell 0 rfl
          have x1 := (S20.blk 1 rfl).cell 1 rfl
          have hbm := moveOk_bdj HOK.out
          simp only at hbm
          have SA : Star w0 (w10.alloc (.cells #[.int .i64 sF, .int .i64 tF] 75)) (oE movesE [.slice ra rn rc] Row :: oE moveE [.int .i64 sF, .int .i64 tF] ⟨sF, tF⟩ :: oSrc q v (K1 + 7) :: oB g8 [.int .i64 (c : Nat), .int .i64 (st : Nat), .slice va vn vc] 26 :: oE movessE [.slice va vn vc] M :: oB g6 [.int .i64 0, .int .i64 0, .slice none 0 0] 26 :: ps) := ((S20.alloc (cs := #[.int .i64 sF, .int .i64 tF]) (ty := 75)).move (x := sF) (y := tF) ⟨by omega, by omega⟩ ⟨by omega, by omega⟩).selM 8 [4, 0, 2, 5, 6, 7]
          have HR2 := Lib.hid (HR.out.snoc HOK.out)
          clear hbm S20
          go_wp2_with (at_builtin; refine st1_MoveS SA rfl rfl rfl rfl cell_a1 (one_mem2 rfl rfl) hRl ?_; intro ja jn jc w11 S21)
          go_roundw
          case rel => exact ⟨a + 1, _, _, _, _, by omega, rfl, by go_num, (S21.selM 2 [1, 0]).moreSrc (by have := HK1.out; omega), HR2⟩
          case measure => simp [intOf]; omega
        case true =>
          go_wp2_with fail
          refine (pickP_any _ q (K1 + 7) 2 v w0 w10 ⟨by decide, by decide⟩ (by omega) hr S20).mono ?_
          rintro e w11 ⟨y2, rfl, hy2, S21⟩
          clear S20
          obtain ⟨sG, hsG⟩ : ∃ x : Int, x = -1 - (y2 : Int) := ⟨_, rfl⟩
          have wy2 : IntKind.i64.wrap (-1 - (y2 : Int)) = sG := by rw [hsG]; exact IntWalk.i64_in _ ⟨by omega, by omega⟩
          have hokG : moveOk ⟨sG, 0⟩ n c (a : Nat) = true := mv_stop (by omega)
          have HR2 := Lib.hid (HR.out.snoc hokG)
          have hgb : -9223372036854775808 ≤ sG ∧ sG ≤ 9223372036854775807 := ⟨by omega, by omega⟩
          have b0 := (S21.blk 1 rfl).cell 0 rfl
          have b1 := (S21.blk 1 rfl).cell 1 rfl
          have bf := (S21.blk 1 rfl).free
          clear hsG hy2 hokG HOK
          go_upto_region 19 with fail
          generalize hW : (w11.setCell _ _).setCell _ _ = w12
          have S22 : Star w0 w12 _ := hW ▸ ((S21.selM 2 [1, 0]).set 0 (.int .i64 sG)).set 1 (.int .i64 0)
          clear hW b0 b1 bf S21 wy2
          have x0 := (S22.blk 0 rfl).cell 0 rfl
          have x1 := (S22.blk 0 rfl).cell 1 rfl
          have SA : Star w0 (w12.alloc (.cells #[.int .i64 sG, .int .i64 0] 75)) (oE movesE [.slice ra rn rc] Row :: oE moveE [.int .i64 sG, .int .i64 0] ⟨sG, 0⟩ :: oSrc q v (K1 + 8) :: oB g8 [.int .i64 (c : Nat), .int .i64 (st : Nat), .slice va vn vc] 26 :: oE movessE [.slice va vn vc] M :: oB g6 [.int .i64 0, .int .i64 0, .slice none 0 0] 26 :: ps) := ((S22.alloc (cs := #[.int .i64 sG, .int .i64 0]) (ty := 75)).move (x := sG) (y := 0) hgb ⟨by decide, by decide⟩).selM 8 [4, 0, 3, 5, 6, 7]
          clear S22
          go_wp2_with (at_builtin; refine st1_MoveS SA rfl rfl rfl rfl cell_a1 (one_mem2 rfl rfl) hRl ?_; intro ja jn jc w13 S23)
          go_roundw
          case rel => exact ⟨a + 1, _, _, _, _, by omega, rfl, by go_num, (S23.selM 2 [1, 0]).moreSrc (by have := HK1.out; omega), HR2⟩
          case measure => simp [intOf]; omega

end Go.Proofs.YtfamhnogpcmbmaaGreatDoor
