/-
  The reference's strict reading of turners, in plain words: it reads what the program reads.
-/
import Derived.Test.YtodoghidckelcaaGreatDoorRwLawK
namespace Go.Proofs.YtodoghidckelcaaGreatDoor
open Go.RowKit

/-- A number of one to nine digits, -1 where there is none. -/
def numL2 : Int → List UInt8 → Int
  | acc, [] => acc
  | acc, c :: r => if c.toNat < 48 then -1 else if 57 < c.toNat then -1 else numL2 (acc * 10 + ((c.toNat : Int) - 48)) r
def num9 (s : List UInt8) : Int := if s.length < 1 then -1 else if 9 < s.length then -1 else if s.getD 0 0 = 48 ∧ 1 < s.length then -1 else numL2 0 s

theorem dec_snoc (a d : Nat) (c : UInt8) (ha : 1 ≤ a) (hd : d < 10) (hc : c.toNat = 48 + d) : Lib.decDigits (a * 10 + d) = Lib.decDigits a ++ [c] := by
  rw [Lib.decDigits, dif_neg (by omega), show (a * 10 + d) / 10 = a by omega, show (a * 10 + d) % 10 = d by omega]
  congr 2
  apply UInt8.toNat_inj.1
  rw [hc, UInt8.toNat_ofNat_of_lt' (by show 48 + d < 256; omega)]

theorem numL2_dec : ∀ (r : List UInt8) (a : Nat), 1 ≤ a → numL2 a r ≠ -1 → ∃ n : Nat, numL2 a r = n ∧ Lib.decDigits n = Lib.decDigits a ++ r
  | [], a, _, _ => ⟨a, rfl, by simp⟩
  | c :: r, a, ha, h => by
    rw [numL2] at h ⊢
    by_cases h1 : c.toNat < 48
    · rw [if_pos h1] at h; exact absurd rfl h
    by_cases h2 : 57 < c.toNat
    · rw [if_neg h1, if_pos h2] at h; exact absurd rfl h
    rw [if_neg h1, if_neg h2] at h ⊢
    have e : (a : Int) * 10 + ((c.toNat : Int) - 48) = ((a * 10 + (c.toNat - 48) : Nat) : Int) := by omega
    rw [e] at h ⊢
    obtain ⟨n, h3, h4⟩ := numL2_dec r (a * 10 + (c.toNat - 48)) (by omega) h
    refine ⟨n, h3, ?_⟩
    rw [h4, dec_snoc a (c.toNat - 48) c ha (by omega) (by omega), List.append_assoc]
    rfl

theorem num9_dec (s : List UInt8) (h : num9 s ≠ -1) : ∃ n : Nat, num9 s = n ∧ Lib.decDigits n = s := by
  unfold num9 at h ⊢
  by_cases h1 : s.length < 1
  · rw [if_pos h1] at h; exact absurd rfl h
  by_cases h2 : 9 < s.length
  · rw [if_neg h1, if_pos h2] at h; exact absurd rfl h
  by_cases h3 : s.getD 0 0 = 48 ∧ 1 < s.length
  · rw [if_neg h1, if_neg h2, if_pos h3] at h; exact absurd rfl h
  rw [if_neg h1, if_neg h2, if_neg h3] at h ⊢
  cases s with
  | nil => exact absurd (by simp) h1
  | cons c r =>
    rw [numL2] at h ⊢
    by_cases c1 : c.toNat < 48
    · rw [if_pos c1] at h; exact absurd rfl h
    by_cases c2 : 57 < c.toNat
    · rw [if_neg c1, if_pos c2] at h; exact absurd rfl h
    rw [if_neg c1, if_neg c2] at h ⊢
    have e : (0 : Int) * 10 + ((c.toNat : Int) - 48) = ((c.toNat - 48 : Nat) : Int) := by omega
    rw [e] at h ⊢
    have hd : Lib.decDigits (c.toNat - 48) = [c] := by
      rw [Lib.decDigits, dif_pos (by omega)]
      congr 1
      apply UInt8.toNat_inj.1
      rw [UInt8.toNat_ofNat_of_lt' (by show 48 + (c.toNat - 48) < 256; omega)]
      omega
    by_cases hz : c.toNat - 48 = 0
    · have hc : c = 48 := UInt8.toNat_inj.1 (by show c.toNat = 48; omega)
      have hr : r = [] := by
        cases r with
        | nil => rfl
        | cons x y => exact absurd ⟨hc, by simp⟩ h3
      subst hr
      exact ⟨c.toNat - 48, rfl, hd⟩
    · obtain ⟨n, h5, h6⟩ := numL2_dec r (c.toNat - 48) (by omega) h
      exact ⟨n, h5, by rw [h6, hd]; rfl⟩

/-- A move, as the reference reads it; false where there is none. -/
def lastD (w : List UInt8) : UInt8 := w.getD (w.length - 1) 0
def dirS (c : UInt8) : Int := if c = 60 then -1 else if c = 62 then 1 else 0
def dirOk (c : UInt8) : Bool := decide (c = 60) || (decide (c = 62) || decide (c = 61))
def readSM (w : List UInt8) : Move × Bool :=
  if w = yesL then (⟨-1, 0⟩, true) else if w = noL then (⟨-2, 0⟩, true) else if w = [] then (⟨0, 0⟩, false)
  else (⟨if num9 (w.take (w.length - 1)) = -1 then 0 else num9 (w.take (w.length - 1)), dirS (lastD w)⟩, decide (num9 (w.take (w.length - 1)) ≠ -1) && dirOk (lastD w))

theorem readSM_back (w : List UInt8) (h : (readSM w).2 = true) : moveL (readSM w).1 = w := by
  unfold readSM at h ⊢
  by_cases h1 : w = yesL
  · rw [if_pos h1, h1]; rfl
  by_cases h2 : w = noL
  · rw [if_neg h1, if_pos h2, h2]; rfl
  by_cases h3 : w = []
  · rw [if_neg h1, if_neg h2, if_pos h3] at h; cases h
  rw [if_neg h1, if_neg h2, if_neg h3] at h ⊢
  simp only [Bool.and_eq_true, decide_eq_true_eq] at h
  obtain ⟨h4, h5⟩ := h
  simp only
  rw [if_neg h4]
  obtain ⟨n, h6, h7⟩ := num9_dec _ h4
  rw [h6]
  unfold moveL
  simp only
  rw [if_neg (by omega), if_neg (by omega), Int.toNat_natCast, h7]
  have hw : w = w.take (w.length - 1) ++ [lastD w] := by
    have e := List.dropLast_concat_getLast h3
    have hl : lastD w = w.getLast h3 := by
      unfold lastD
      rw [List.getLast_eq_getElem, List.getD_eq_getElem?_getD, List.getElem?_eq_getElem (by have := List.length_pos_iff.2 h3; omega)]
      rfl
    rw [hl, ← List.dropLast_eq_take]
    exact e.symm
  have hd : (if dirS (lastD w) = -1 then [60] else if dirS (lastD w) = 0 then [61] else [62]) = [lastD w] := by
    unfold dirOk at h5
    rw [Bool.or_eq_true, Bool.or_eq_true, decide_eq_true_eq, decide_eq_true_eq, decide_eq_true_eq] at h5
    rcases h5 with h | h | h <;> (rw [h]; rfl)
  rw [hd]
  exact hw.symm

def smGood (j : Nat) (d : Int) (c : UInt8) : Bool := decide (readSM (mvD j c) = (⟨(j : Int), d⟩, true))
theorem sm_all : ((List.range 12).all fun j => smGood j (-1) 60 && (smGood j 0 61 && smGood j 1 62)) = true := by decide +kernel

theorem readSM_moveL {m : Move} {n l k : Int} (h : moveOk m n l k = true) (hn : n ≤ 12) : readSM (moveL m) = (m, true) := by
  rcases mv_cases h hn with rfl | rfl | ⟨j, hj, rfl | rfl | rfl⟩
  · decide
  · decide
  all_goals
    have h1 := List.all_eq_true.1 sm_all j (List.mem_range.2 hj)
    rw [Bool.and_eq_true, Bool.and_eq_true] at h1
    have e1 : ¬ ((j : Int) = -1) := by omega
    have e2 : ¬ ((j : Int) = -2) := by omega
    unfold moveL
    rw [if_neg e1, if_neg e2, Int.toNat_natCast, dec2_is j (by omega)]
  · exact of_decide_eq_true h1.1
  · exact of_decide_eq_true h1.2.1
  · exact of_decide_eq_true h1.2.2

theorem num9_all : ((List.range 13).all fun n => decide (num9 (dec2 n) = (n : Int))) = true := by decide +kernel
theorem num9_small (n : Nat) (h : n < 13) : num9 (Lib.decDigits n) = (n : Int) := by
  rw [dec2_is n (by omega)]
  exact of_decide_eq_true (List.all_eq_true.1 num9_all n (List.mem_range.2 h))

/-! ## The lines of a text -/

def hdS (s : List UInt8) : List (List UInt8) := splitL 32 ((splitL 10 s).getD 0 [])
def rowM (line : List UInt8) : List Move := ((splitL 32 line).drop 1).map fun w => (readSM w).1
def rowOkS (line : List UInt8) : Bool := decide ((splitL 32 line).getD 0 [] = stateW) && ((splitL 32 line).drop 1).all fun w => (readSM w).2
structure GoodH (s : List UInt8) : Prop where
  n : ∀ w, w ∈ (hdS s).drop 1 → num9 w ≠ -1
  w : (hdS s).getD 0 [] = turnerW
  l : ((hdS s).drop 1).length = 3
  e : (splitL 10 s).getD ((splitL 10 s).length - 1) [] = []
  k : ((splitL 10 s).length : Int) = num9 ((hdS s).getD 2 []) + 2
def GoodR (s : List UInt8) : Prop := ∀ k, k + 2 < (splitL 10 s).length → rowOkS ((splitL 10 s).getD (k + 1) []) = true
def turS (s : List UInt8) : Turner := ⟨num9 ((hdS s).getD 1 []), num9 ((hdS s).getD 3 []), (((splitL 10 s).drop 1).take ((splitL 10 s).length - 2)).map rowM⟩

theorem joinC_snoc (c : UInt8) : ∀ (x : List UInt8) (ls : List (List UInt8)), joinC c (x :: ls ++ [[]]) = joinC c (x :: ls) ++ [c]
  | x, [] => by simp [joinC]
  | x, y :: ls => by
    rw [List.cons_append, joinC_cons c x (y :: ls ++ [[]]) (by simp), joinC_snoc c y ls, joinC_cons c x (y :: ls) (by simp)]
    simp

theorem splitT_is {t : Turner} (K : TurnOk t) : splitL 10 (turnL t) = tlines t ++ [[]] := by
  have e : turnL t = joinC 10 (tlines t ++ [[]]) := by
    rw [turnL_is]
    unfold tlines
    rw [joinC_snoc]
  rw [e]
  refine splitL_of 10 _ (by simp) (fun w hw => ?_)
  rcases List.mem_append.1 hw with hw | hw
  · exact tlines_free K w hw
  · rw [List.mem_singleton.1 hw]; simp

theorem rowW_split {t : Turner} (K : TurnOk t) {x : List Move} (hx : x ∈ t.moves) : splitL 32 (joinC 32 (rowW x)) = rowW x :=
  splitL_of 32 (rowW x) (by simp [rowW]) (by
    intro w hw
    unfold rowW at hw
    rcases List.mem_cons.1 hw with rfl | hw
    · decide
    · obtain ⟨m, hm, rfl⟩ := List.mem_map.1 hw
      exact (row_reads K hx hm).2.1)

theorem row_sm {t : Turner} (K : TurnOk t) {x : List Move} (hx : x ∈ t.moves) {m : Move} (hm : m ∈ x) : readSM (moveL m) = (m, true) := by
  obtain ⟨k, hk, rfl⟩ := getD_of_mem hm
  exact readSM_moveL ((K.row x hx).2 k hk) (by have := K.n12; omega)

theorem rowM_is {t : Turner} (K : TurnOk t) {x : List Move} (hx : x ∈ t.moves) : rowM (joinC 32 (rowW x)) = x ∧ rowOkS (joinC 32 (rowW x)) = true := by
  unfold rowM rowOkS
  rw [rowW_split K hx]
  unfold rowW
  rw [List.drop_succ_cons, List.drop_zero, List.map_map]
  refine ⟨(List.map_congr_left fun m hm => congrArg Prod.fst (row_sm K hx hm)).trans (List.map_id x), ?_⟩
  rw [Bool.and_eq_true]
  refine ⟨decide_eq_true rfl, List.all_eq_true.2 fun w hw => ?_⟩
  obtain ⟨m, hm, rfl⟩ := List.mem_map.1 hw
  rw [row_sm K hx hm]

theorem hd_is {t : Turner} (K : TurnOk t) : hdS (turnL t) = headW t := by
  unfold hdS
  rw [splitT_is K]
  exact splitL_of 32 (headW t) (by simp [headW]) (fun w hw => (head_free K w hw).1)

/-- A right turner's text is read by the reference. -/
theorem specT_of {t : Turner} (h : validTurn t = true) : GoodH (turnL t) ∧ GoodR (turnL t) ∧ turS (turnL t) = t := by
  have K := turnOk_of h
  have n1 := num9_small t.letters.toNat (by have := K.l3; omega)
  have n2 := num9_small t.moves.length (by have := K.n12; omega)
  have n3 := num9_small t.start.toNat (by have := K.n12; have := K.s1; omega)
  have hl : (splitL 10 (turnL t)).length = t.moves.length + 2 := by rw [splitT_is K]; simp [tlines]
  refine ⟨⟨?_, by rw [hd_is K]; rfl, by rw [hd_is K]; rfl, ?_, ?_⟩, ?_, ?_⟩
  · intro w hw
    rw [hd_is K] at hw
    simp only [headW, List.drop_succ_cons, List.drop_zero, List.mem_cons, List.not_mem_nil, or_false] at hw
    rcases hw with rfl | rfl | rfl
    · rw [n1]; omega
    · rw [n2]; omega
    · rw [n3]; omega
  · rw [hl, splitT_is K, List.getD_eq_getElem?_getD, List.getElem?_append_right (by simp [tlines])]
    simp [tlines]
  · rw [hl, hd_is K]
    show _ = num9 (Lib.decDigits t.moves.length) + 2
    rw [n2]; omega
  · intro k hk
    rw [hl] at hk
    have hk2 : k < t.moves.length := by omega
    have e : (splitL 10 (turnL t)).getD (k + 1) [] = joinC 32 (rowW t.moves[k]) := by
      rw [splitT_is K, List.getD_eq_getElem?_getD, List.getElem?_append_left (by simp [tlines]; omega)]
      simp [tlines, List.getElem?_eq_getElem hk2]
    rw [e]
    exact (rowM_is K (List.getElem_mem hk2)).2
  · unfold turS
    rw [hl, hd_is K, splitT_is K]
    have e1 : (headW t).getD 1 [] = Lib.decDigits t.letters.toNat := rfl
    have e3 : (headW t).getD 3 [] = Lib.decDigits t.start.toNat := rfl
    have e4 : ((tlines t ++ [[]]).drop 1).take (t.moves.length + 2 - 2) = t.moves.map fun row => joinC 32 (rowW row) := by
      show ((t.moves.map fun row => joinC 32 (rowW row)) ++ [[]]).take (t.moves.length + 2 - 2) = _
      exact List.take_left' (by simp)
    rw [e1, e3, e4, n1, n3, List.map_map, Int.toNat_of_nonneg (by have := K.l1; omega), Int.toNat_of_nonneg K.s0]
    have e6 : t.moves.map (rowM ∘ fun row => joinC 32 (rowW row)) = t.moves := (List.map_congr_left fun x hx => (rowM_is K hx).1).trans (List.map_id _)
    rw [e6]

theorem row_back (line : List UInt8) (h : rowOkS line = true) : joinC 32 (rowW (rowM line)) = line := by
  unfold rowOkS at h
  rw [Bool.and_eq_true, decide_eq_true_eq] at h
  have hj := splitL_join 32 line
  unfold rowW rowM
  rw [List.map_map]
  cases hs : splitL 32 line with
  | nil => exact absurd hs (splitL_ne 32 line)
  | cons x ws =>
    rw [hs] at h hj
    have hx : x = stateW := h.1
    have e : ws.map (moveL ∘ fun w => (readSM w).1) = ws := (List.map_congr_left fun w hw => readSM_back w (List.all_eq_true.1 h.2 w hw)).trans (List.map_id ws)
    rw [List.drop_succ_cons, List.drop_zero, e, ← hx]
    exact hj

/-- What the reference reads has the text. -/
theorem specT_back {s : List UInt8} (H : GoodH s) (R : GoodR s) : turnL (turS s) = s := by
  have hj := splitL_join 10 s
  have hh := splitL_join 32 ((splitL 10 s).getD 0 [])
  obtain ⟨n2, hn2⟩ : ∃ n2 : Nat, num9 ((hdS s).getD 2 []) = n2 ∧ Lib.decDigits n2 = (hdS s).getD 2 [] := num9_dec _ (H.n _ (by
    have := H.l
    rw [List.length_drop] at this
    rw [List.getD_eq_getElem?_getD, List.getElem?_eq_getElem (by omega)]
    exact List.mem_drop_iff_getElem.2 ⟨1, by omega, rfl⟩))
  have hk := H.k
  rw [hn2.1] at hk
  have hlen : (splitL 10 s).length = n2 + 2 := by omega
  have hml : (turS s).moves.length = n2 := by unfold turS; rw [List.length_map, List.length_take, List.length_drop]; omega
  -- the first line
  have h0 : joinC 32 (headW (turS s)) = (splitL 10 s).getD 0 [] := by
    rw [← hh]
    congr 1
    have hl4 : (hdS s).length = 4 := by have := H.l; rw [List.length_drop] at this; omega
    have hw := H.w; have hn := H.n
    show headW (turS s) = hdS s
    unfold headW
    rw [hml, hn2.2]
    unfold turS
    generalize hdS s = l at hl4 hw hn ⊢
    match l, hl4 with
    | [a, b, c, d], _ =>
      obtain ⟨m1, p1, p2⟩ := num9_dec b (hn b (by simp))
      obtain ⟨m3, p3, p4⟩ := num9_dec d (hn d (by simp))
      have ha : a = turnerW := hw
      show [turnerW, Lib.decDigits (num9 b).toNat, c, Lib.decDigits (num9 d).toNat] = [a, b, c, d]
      rw [p1, p3, Int.toNat_natCast, Int.toNat_natCast, p2, p4, ha]
  have hls : splitL 10 s = tlines (turS s) ++ [[]] := by
    apply List.ext_getElem?
    intro i
    have hti : (tlines (turS s)).length = n2 + 1 := by simp [tlines, hml]
    by_cases i0 : i = 0
    · subst i0
      rw [List.getElem?_append_left (by omega)]
      show _ = some (joinC 32 (headW (turS s)))
      rw [h0, List.getD_eq_getElem?_getD, List.getElem?_eq_getElem (by omega)]
      rfl
    by_cases i1 : i < n2 + 1
    · rw [List.getElem?_append_left (by omega)]
      obtain ⟨k, rfl⟩ : ∃ k, i = k + 1 := ⟨i - 1, by omega⟩
      have hk1 : k + 1 < (splitL 10 s).length := by omega
      have hr := row_back _ (R k (by omega))
      have e1 : (tlines (turS s))[k + 1]? = some (joinC 32 (rowW (rowM ((splitL 10 s).getD (k + 1) [])))) := by
        unfold tlines turS
        rw [List.getElem?_cons_succ, List.getElem?_map, List.getElem?_map, List.getElem?_take, if_pos (by omega), List.getElem?_drop, Nat.add_comm 1 k, List.getD_eq_getElem?_getD, List.getElem?_eq_getElem hk1]
        rfl
      rw [e1, hr, List.getD_eq_getElem?_getD, List.getElem?_eq_getElem hk1]
      rfl
    by_cases i2 : i = n2 + 1
    · rw [i2, List.getElem?_append_right (by omega), hti, Nat.sub_self]
      have he := H.e
      rw [hlen, List.getD_eq_getElem?_getD] at he
      have hg : (splitL 10 s)[n2 + 2 - 1]? = some ((splitL 10 s)[n2 + 1]'(by omega)) := List.getElem?_eq_getElem (by omega)
      rw [hg] at he
      have hg2 : (splitL 10 s)[n2 + 1]? = some ((splitL 10 s)[n2 + 1]'(by omega)) := List.getElem?_eq_getElem (by omega)
      rw [hg2]
      have he2 : (splitL 10 s)[n2 + 1]'(by omega) = [] := he
      rw [he2]
      rfl
    · rw [List.getElem?_eq_none (by omega), List.getElem?_eq_none (by rw [List.length_append, hti]; simp; omega)]
  rw [turnL_is]
  unfold tlines at hls ⊢
  rw [← joinC_snoc, ← hls, hj]

theorem read_yes {s : List UInt8} (h20 : s.length ≤ 20000) (H : GoodH s) (R : GoodR s) (V : validTurn (turS s) = true) : readT s = (turS s, 0) := by
  have h := readT_is V
  rwa [specT_back H R] at h

theorem read_no {s : List UInt8} (h20 : s.length ≤ 20000) (h : ¬ (GoodH s ∧ GoodR s ∧ validTurn (turS s) = true)) : readT s = (noTurn, 5) := by
  unfold readT
  rw [if_neg (by omega), if_neg]
  rintro ⟨hv, ht⟩
  obtain ⟨a, b, c⟩ := specT_of hv
  rw [ht] at a b c
  exact h ⟨a, b, by rw [c]; exact hv⟩

end Go.Proofs.YtodoghidckelcaaGreatDoor
