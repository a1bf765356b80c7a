/-
  The reference's strict reading of writers, in plain words: it reads what the program reads.
-/
import Derived.Test.YtodoghidckelcaaGreatDoorRwPK
namespace Go.Proofs.YtodoghidckelcaaGreatDoor
open Go.RowKit

def nl (l : List UInt8) : List UInt8 := l ++ [10]
def halfS (s : List UInt8) : Nat := (splitL 10 s).length / 2
def headS (s : List UInt8) : List UInt8 := ((splitL 10 s).take (halfS s)).flatMap nl
def orowOkS (line : List UInt8) : Bool := decide ((splitL 32 line).getD 0 [] = outO) && ((splitL 32 line).drop 1).all fun w => decide (w ≠ [])
structure GoodW (s : List UInt8) : Prop where
  p : (splitL 10 s).length % 2 = 0
  e : (splitL 10 s).getD ((splitL 10 s).length - 1) [] = []
  t : (readT (headS s)).2 = 0
  r : ∀ k, halfS s + k + 1 < (splitL 10 s).length → orowOkS ((splitL 10 s).getD (halfS s + k) []) = true
def witS (s : List UInt8) : Writer := ⟨(readT (headS s)).1, (((splitL 10 s).drop (halfS s)).take ((splitL 10 s).length - 1 - halfS s)).map orowT⟩

theorem nl_join : ∀ (ls : List (List UInt8)) (k : Nat), k < ls.length → ((ls.take k).flatMap nl).length ≤ (joinC 10 ls).length
  | [], k, h => by simp at h
  | [x], k, h => by
    obtain rfl : k = 0 := by simp at h; exact h
    simp
  | x :: y :: r, k, h => by
    rw [joinC_cons 10 x (y :: r) (by simp)]
    cases k with
    | zero => simp
    | succ k =>
      have ih := nl_join (y :: r) k (by simp at h ⊢; omega)
      rw [List.take_succ_cons, List.flatMap_cons, List.length_append, List.length_append, List.length_cons]
      unfold nl at *
      rw [List.length_append, List.length_singleton]
      omega

theorem nl_all (c : List (List UInt8)) (h : c ≠ []) : c.flatMap nl = joinC 10 c ++ [10] := by
  cases c with
  | nil => exact absurd rfl h
  | cons x c => exact lines_join 10 x c

theorem splitW_is {r : Writer} (K : WritOk r) : splitL 10 (writL r) = tlines r.turner ++ olines r ++ [[]] := by
  have e : writL r = joinC 10 (tlines r.turner ++ olines r ++ [[]]) := by
    have h1 : writL r = (tlines r.turner ++ olines r).flatMap nl := by
      rw [writL_is K, List.flatMap_append, nl_all _ (by simp [tlines]), nl_all _ (by obtain ⟨o, os, h⟩ := olines_ne K; rw [h]; simp)]
    rw [h1, nl_all _ (by simp [tlines])]
    unfold tlines
    rw [List.cons_append, joinC_snoc]
  rw [e]
  refine splitL_of 10 _ (by simp) (fun w hw => ?_)
  rcases List.mem_append.1 hw with hw | hw
  · rcases List.mem_append.1 hw with hw | hw
    · exact tlines_free K.t w hw
    · exact olines_free K w hw
  · rw [List.mem_singleton.1 hw]; simp

theorem orow_split {r : Writer} (K : WritOk r) {x : List ByteArray} (hx : x ∈ r.out) : splitL 32 (joinC 32 (orowW x)) = orowW x := by
  obtain ⟨s, hs, rfl⟩ := getD_of_mem hx
  exact splitL_of 32 (orowW _) (by simp [orowW]) (by
    intro w hw
    unfold orowW at hw
    rcases List.mem_cons.1 hw with rfl | hw
    · decide
    · obtain ⟨m, hm, rfl⟩ := List.mem_map.1 hw
      exact (ouW_reads ((K.row s hs).2 m hm)).2.1)

theorem ouW_ne (x : ByteArray) : ouW x ≠ [] := by
  unfold ouW
  by_cases h : x = ⟨#[]⟩
  · rw [if_pos h]; simp
  · rw [if_neg h]
    intro e
    apply h
    rw [← mkB_of x, e]
    rfl

theorem orowOk_is {r : Writer} (K : WritOk r) {x : List ByteArray} (hx : x ∈ r.out) : orowOkS (joinC 32 (orowW x)) = true := by
  unfold orowOkS
  rw [orow_split K hx, Bool.and_eq_true]
  refine ⟨decide_eq_true rfl, List.all_eq_true.2 fun w hw => ?_⟩
  unfold orowW at hw
  rw [List.drop_succ_cons, List.drop_zero] at hw
  obtain ⟨m, hm, rfl⟩ := List.mem_map.1 hw
  exact decide_eq_true (ouW_ne m)

/-- A right writer's text is read by the reference. -/
theorem specW_of {r : Writer} (h : writerOk r = true) : GoodW (writL r) ∧ witS (writL r) = r := by
  have K := writOk_of h
  have hn := K.n
  have hl : (splitL 10 (writL r)).length = 2 * r.turner.moves.length + 2 := by
    rw [splitW_is K]
    simp [tlines, olines, hn]
    omega
  have hhf : halfS (writL r) = r.turner.moves.length + 1 := by unfold halfS; rw [hl]; omega
  have htl : (tlines r.turner).length = r.turner.moves.length + 1 := by simp [tlines]
  have hol : (olines r).length = r.turner.moves.length := by simp [olines, hn]
  have hhd : headS (writL r) = turnL r.turner := by
    unfold headS
    rw [hhf, splitW_is K, List.append_assoc, List.take_left' htl, nl_all _ (by simp [tlines]), turnL_is]
  have hrd : readT (headS (writL r)) = (r.turner, 0) := by rw [hhd, readT_is K.v]
  refine ⟨⟨by rw [hl]; omega, ?_, by rw [hrd], ?_⟩, ?_⟩
  · rw [hl, splitW_is K, List.getD_eq_getElem?_getD, List.getElem?_append_right (by rw [List.length_append, htl, hol]; omega), List.length_append, htl, hol]
    rw [show 2 * r.turner.moves.length + 2 - 1 - (r.turner.moves.length + 1 + r.turner.moves.length) = 0 by omega]
    rfl
  · intro k hk
    rw [hl, hhf] at hk
    have hk2 : k < r.out.length := by omega
    have e : (splitL 10 (writL r)).getD (halfS (writL r) + k) [] = joinC 32 (orowW r.out[k]) := by
      rw [splitW_is K, hhf, List.append_assoc, List.getD_eq_getElem?_getD, List.getElem?_append_right (by omega), htl, Nat.add_sub_cancel_left, List.getElem?_append_left (by omega)]
      unfold olines
      rw [List.getElem?_map, List.getElem?_eq_getElem hk2]
      rfl
    rw [e]
    exact orowOk_is K (List.getElem_mem hk2)
  · unfold witS
    rw [hrd, hl, hhf, splitW_is K, List.append_assoc, List.drop_left' htl, show 2 * r.turner.moves.length + 2 - 1 - (r.turner.moves.length + 1) = r.turner.moves.length by omega, List.take_left' hol]
    unfold olines
    rw [List.map_map]
    have e6 : r.out.map (orowT ∘ fun row => joinC 32 (orowW row)) = r.out := (List.map_congr_left fun x hx => orowT_is K hx).trans (List.map_id _)
    rw [e6]

theorem ou_back (w : List UInt8) (h : w ≠ []) : ouW (outW w) = w := by
  unfold outW
  by_cases h1 : w = [45]
  · rw [if_pos h1, h1]; rfl
  · rw [if_neg h1]
    unfold ouW
    rw [if_neg]
    · rfl
    · intro e
      exact h (mkB_inj (e.trans rfl))

theorem orow_back (line : List UInt8) (h : orowOkS line = true) : olineL (orowT line) = nl line := by
  unfold orowOkS at h
  rw [Bool.and_eq_true, decide_eq_true_eq] at h
  have hj := splitL_join 32 line
  rw [olineL_is]
  unfold orowW orowT nl
  congr 1
  rw [List.map_map]
  cases hs : splitL 32 line with
  | nil => exact absurd hs (splitL_ne 32 line)
  | cons x ws =>
    rw [hs] at h hj
    have hx : x = outO := h.1
    have e : ws.map (ouW ∘ outW) = ws := (List.map_congr_left fun w hw => ou_back w (of_decide_eq_true (List.all_eq_true.1 h.2 w hw))).trans (List.map_id ws)
    rw [List.drop_succ_cons, List.drop_zero, e, ← hx]
    exact hj

theorem readT_ok {s : List UInt8} (h : (readT s).2 = 0) : validTurn (readT s).1 = true ∧ turnL (readT s).1 = s := by
  unfold readT at h ⊢
  by_cases h1 : 20000 < s.length
  · rw [if_pos h1] at h; cases h
  rw [if_neg h1] at h ⊢
  by_cases h2 : validTurn (parseT s) = true ∧ turnL (parseT s) = s
  · rw [if_pos h2]; exact h2
  · rw [if_neg h2] at h; cases h

/-- What the reference reads has the text. -/
theorem specW_back {s : List UInt8} (H : GoodW s) : writL (witS s) = s := by
  have hj := splitL_join 10 s
  have hl0 : 0 < (splitL 10 s).length := List.length_pos_iff.2 (splitL_ne 10 s)
  have hp := H.p
  have hhf : halfS s + halfS s = (splitL 10 s).length := by unfold halfS; omega
  obtain ⟨hv, ht⟩ := readT_ok H.t
  have hrows : ((((splitL 10 s).drop (halfS s)).take ((splitL 10 s).length - 1 - halfS s)).map orowT).flatMap olineL = (((splitL 10 s).drop (halfS s)).take ((splitL 10 s).length - 1 - halfS s)).flatMap nl := by
    rw [List.flatMap_map]
    have key : ∀ l : List (List UInt8), (∀ x, x ∈ l → orowOkS x = true) → l.flatMap (fun x => olineL (orowT x)) = l.flatMap nl := by
      intro l
      induction l with
      | nil => intro _; rfl
      | cons x l ih =>
        intro h
        rw [List.flatMap_cons, List.flatMap_cons, orow_back x (h x (by simp)), ih (fun y hy => h y (by simp [hy]))]
    refine key _ (fun x hx => ?_)
    obtain ⟨k, hk, rfl⟩ := List.getElem_of_mem hx
    rw [List.length_take, List.length_drop] at hk
    have e : (((splitL 10 s).drop (halfS s)).take ((splitL 10 s).length - 1 - halfS s))[k]'(by rw [List.length_take, List.length_drop]; omega) = (splitL 10 s).getD (halfS s + k) [] := by
      rw [List.getElem_take, List.getElem_drop, List.getD_eq_getElem?_getD, List.getElem?_eq_getElem (by omega)]
      rfl
    rw [e]
    exact H.r k (by omega)
  unfold writL
  have e1 : turnL (witS s).turner = headS s := ht
  have e2 : (witS s).out = (((splitL 10 s).drop (halfS s)).take ((splitL 10 s).length - 1 - halfS s)).map orowT := rfl
  rw [e1, e2, hrows]
  unfold headS
  rw [← List.flatMap_append]
  have e3 : (splitL 10 s).take (halfS s) ++ ((splitL 10 s).drop (halfS s)).take ((splitL 10 s).length - 1 - halfS s) = (splitL 10 s).take ((splitL 10 s).length - 1) := by
    have := List.take_add (l := splitL 10 s) (i := halfS s) (j := (splitL 10 s).length - 1 - halfS s)
    rw [← this]
    congr 1
    omega
  rw [e3]
  have hne : (splitL 10 s).take ((splitL 10 s).length - 1) ≠ [] := by
    intro e
    have := congrArg List.length e
    rw [List.length_take] at this
    simp at this
    omega
  rw [nl_all _ hne]
  have hlast : splitL 10 s = (splitL 10 s).take ((splitL 10 s).length - 1) ++ [[]] := by
    have h1 := List.take_succ_eq_append_getElem (l := splitL 10 s) (i := (splitL 10 s).length - 1) (by omega)
    rw [show (splitL 10 s).length - 1 + 1 = (splitL 10 s).length by omega, List.take_length] at h1
    have he := H.e
    rw [List.getD_eq_getElem?_getD, List.getElem?_eq_getElem (by omega)] at he
    have he2 : (splitL 10 s)[(splitL 10 s).length - 1]'(by omega) = [] := he
    rw [he2] at h1
    exact h1
  cases hc : (splitL 10 s).take ((splitL 10 s).length - 1) with
  | nil => exact absurd hc hne
  | cons x c =>
    rw [hc] at hlast
    rw [← joinC_snoc, ← hlast, hj]

theorem readW_yes {s : List UInt8} (H : GoodW s) (V : writerOk (witS s) = true) : readW s = (witS s, 0) := by
  have h := readW_is V
  rwa [specW_back H] at h

theorem readW_no {s : List UInt8} (h20 : s.length ≤ 20000) (h : ¬ (GoodW s ∧ writerOk (witS s) = true)) : readW s = (noWrit, 5) := by
  unfold readW
  rw [if_neg (by omega)]
  split
  · rfl
  · rw [if_neg]
    rintro ⟨hv, ht⟩
    obtain ⟨a, b⟩ := specW_of hv
    rw [ht] at a b
    exact h ⟨a, by rw [b]; exact hv⟩

theorem headS_le {s : List UInt8} : (headS s).length ≤ s.length := by
  unfold headS
  have h0 : 0 < (splitL 10 s).length := List.length_pos_iff.2 (splitL_ne 10 s)
  have := nl_join (splitL 10 s) (halfS s) (by unfold halfS; omega)
  rwa [splitL_join] at this

end Go.Proofs.YtodoghidckelcaaGreatDoor
