/-
  What is written is read: the texts of turners and writers.
-/
import Derived.Test.YtodoghidckelcaaGreatDoorRwDefK
namespace Go.Proofs.YtodoghidckelcaaGreatDoor
open Go.RowKit

theorem nums3 (a b c : Nat) : (numsB [a, b, c]).data.toList = 32 :: Lib.decDigits a ++ (32 :: Lib.decDigits b ++ 32 :: Lib.decDigits c) := by
  simp [numsB, ByteArray.data_append, decB]

theorem joinC_free (c d : UInt8) (hcd : c ≠ d) (x : List UInt8) (ws : List (List UInt8)) (hx : c ∉ x) (h : ∀ w, w ∈ ws → c ∉ w) : c ∉ joinC d (x :: ws) := by
  rw [joinC_flat]
  intro hm
  rcases List.mem_append.1 hm with hm | hm
  · exact hx hm
  · obtain ⟨w, hw, hc⟩ := List.mem_flatMap.1 hm
    rcases List.mem_cons.1 hc with e | hc
    · exact hcd e
    · exact h w hw hc

def turnerW : List UInt8 := [116, 117, 114, 110, 101, 114]
def stateW : List UInt8 := [115, 116, 97, 116, 101]
def headW (t : Turner) : List (List UInt8) := [turnerW, Lib.decDigits t.letters.toNat, Lib.decDigits t.moves.length, Lib.decDigits t.start.toNat]
def rowW (row : List Move) : List (List UInt8) := stateW :: row.map moveL
def tlines (t : Turner) : List (List UInt8) := joinC 32 (headW t) :: t.moves.map fun row => joinC 32 (rowW row)

theorem headL_is (t : Turner) : headL t = joinC 32 (headW t) ++ [10] := by
  unfold headL headW
  rw [nums3]
  simp [joinC, turnerW]

theorem tlineL_is (row : List Move) : tlineL row = joinC 32 (rowW row) ++ [10] := by
  unfold tlineL rowW
  rw [joinC_flat, List.flatMap_map]
  rfl

theorem turnL_is (t : Turner) : turnL t = joinC 10 (tlines t) ++ [10] := by
  unfold turnL tlines
  rw [← lines_join, List.flatMap_cons, List.flatMap_map, headL_is]
  congr 1
  exact congrArg (fun f => List.flatMap f t.moves) (funext tlineL_is)

theorem row_reads {t : Turner} (K : TurnOk t) {x : List Move} (hx : x ∈ t.moves) {m : Move} (hm : m ∈ x) : readMv (moveL m) = m ∧ (32 : UInt8) ∉ moveL m ∧ (10 : UInt8) ∉ moveL m := by
  obtain ⟨k, hk, rfl⟩ := getD_of_mem hm
  exact moveL_reads ((K.row x hx).2 k hk) (by have := K.n12; omega)

theorem head_free {t : Turner} (K : TurnOk t) : ∀ w, w ∈ headW t → (32 : UInt8) ∉ w ∧ (10 : UInt8) ∉ w := by
  intro w hw
  have h1 := dec_reads t.letters.toNat (by have := K.l3; omega)
  have h2 := dec_reads t.moves.length (by have := K.n12; omega)
  have h3 := dec_reads t.start.toNat (by have := K.n12; have := K.s1; omega)
  unfold headW at hw
  simp only [List.mem_cons, List.not_mem_nil, or_false] at hw
  rcases hw with rfl | rfl | rfl | rfl
  · decide
  · exact h1.2
  · exact h2.2
  · exact h3.2

theorem tlines_free {t : Turner} (K : TurnOk t) : ∀ l, l ∈ tlines t → (10 : UInt8) ∉ l := by
  intro l hl
  unfold tlines at hl
  rcases List.mem_cons.1 hl with rfl | hl
  · exact joinC_free 10 32 (by decide) _ _ (head_free K turnerW (by simp [headW])).2 (fun w hw => (head_free K w (by unfold headW; exact List.mem_cons_of_mem _ hw)).2)
  · obtain ⟨row, hr, rfl⟩ := List.mem_map.1 hl
    refine joinC_free 10 32 (by decide) _ _ (by decide) (fun w hw => ?_)
    obtain ⟨m, hm, rfl⟩ := List.mem_map.1 hw
    exact (row_reads K hr hm).2.2

theorem linesT_is {t : Turner} (K : TurnOk t) : linesT (turnL t) = tlines t := by
  unfold linesT
  rw [turnL_is, trim_hit]
  exact splitL_of 10 _ (by simp [tlines]) (tlines_free K)

theorem rowT_is {t : Turner} (K : TurnOk t) {x : List Move} (hx : x ∈ t.moves) : rowT (joinC 32 (rowW x)) = x := by
  unfold rowT
  rw [splitL_of 32 (rowW x) (by simp [rowW]) (by
    intro w hw
    unfold rowW at hw
    rcases List.mem_cons.1 hw with rfl | hw
    · decide
    · obtain ⟨m, hm, rfl⟩ := List.mem_map.1 hw
      exact (row_reads K hx hm).2.1)]
  unfold rowW
  rw [List.drop_succ_cons, List.drop_zero, List.map_map]
  exact (List.map_congr_left fun m hm => (row_reads K hx hm).1).trans (List.map_id x)

theorem parseT_is {t : Turner} (h : validTurn t = true) : parseT (turnL t) = t := by
  have K := turnOk_of h
  unfold parseT headT
  rw [linesT_is K]
  have e1 : (tlines t).headD [] = joinC 32 (headW t) := rfl
  have e2 : (tlines t).drop 1 = t.moves.map fun row => joinC 32 (rowW row) := rfl
  rw [e1, e2, splitL_of 32 (headW t) (by simp [headW]) (fun w hw => (head_free K w hw).1)]
  have e3 : padT 4 (headW t) = headW t := by simp [padT, headW]
  have e4 : (headW t).getD 1 [] = Lib.decDigits t.letters.toNat := rfl
  have e5 : (headW t).getD 3 [] = Lib.decDigits t.start.toNat := rfl
  rw [e3, e4, e5, (dec_reads t.letters.toNat (by have := K.l3; omega)).1, (dec_reads t.start.toNat (by have := K.n12; have := K.s1; omega)).1, List.map_map]
  have e6 : t.moves.map (rowT ∘ fun row => joinC 32 (rowW row)) = t.moves := (List.map_congr_left fun x hx => rowT_is K hx).trans (List.map_id _)
  rw [e6, Int.toNat_of_nonneg (by have := K.l1; omega), Int.toNat_of_nonneg K.s0]

theorem readT_is {t : Turner} (h : validTurn t = true) : readT (turnL t) = (t, 0) := by
  unfold readT
  rw [if_neg (by have := (turnOk_of h).turnL_le; omega), parseT_is h, if_pos ⟨h, rfl⟩]

/-! ## Writers -/

def ouW (x : ByteArray) : List UInt8 := if x = ⟨#[]⟩ then [45] else x.data.toList
def orowW (row : List ByteArray) : List (List UInt8) := outO :: row.map ouW
def olines (r : Writer) : List (List UInt8) := r.out.map fun row => joinC 32 (orowW row)

theorem olineL_is (row : List ByteArray) : olineL row = joinC 32 (orowW row) ++ [10] := by
  unfold olineL orowW
  rw [joinC_flat, List.flatMap_map]
  rfl

theorem ouW_reads {x : ByteArray} (h : outOk x = true) : outW (ouW x) = x ∧ (32 : UInt8) ∉ ouW x ∧ (10 : UInt8) ∉ ouW x := by
  unfold outOk at h
  rw [Bool.and_eq_true] at h
  have ha := List.all_eq_true.1 h.2
  have hno : ∀ c : UInt8, c ∉ ([97, 98, 99] : List UInt8) → c ∉ x.data.toList := fun c hc hm => hc (List.contains_iff_mem.1 (ha c hm))
  unfold ouW
  by_cases he : x = ⟨#[]⟩
  · rw [if_pos he]
    refine ⟨?_, by decide, by decide⟩
    rw [he]
    unfold outW
    rw [if_pos rfl]
    rfl
  · rw [if_neg he]
    refine ⟨?_, hno 32 (by decide), hno 10 (by decide)⟩
    unfold outW
    rw [if_neg (fun e => hno 45 (by decide) (by rw [e]; simp)), mkB_of]

theorem olines_free {r : Writer} (K : WritOk r) : ∀ l, l ∈ olines r → (10 : UInt8) ∉ l := by
  intro l hl
  obtain ⟨row, hr, rfl⟩ := List.mem_map.1 hl
  refine joinC_free 10 32 (by decide) _ _ (by decide) (fun w hw => ?_)
  obtain ⟨m, hm, rfl⟩ := List.mem_map.1 hw
  obtain ⟨s, hs, rfl⟩ := getD_of_mem hr
  exact (ouW_reads ((K.row s hs).2 m hm)).2.2

theorem orowT_is {r : Writer} (K : WritOk r) {x : List ByteArray} (hx : x ∈ r.out) : orowT (joinC 32 (orowW x)) = x := by
  obtain ⟨s, hs, rfl⟩ := getD_of_mem hx
  unfold orowT
  rw [splitL_of 32 (orowW _) (by simp [orowW]) (by
    intro w hw
    unfold orowW at hw
    rcases List.mem_cons.1 hw with rfl | hw
    · decide
    · obtain ⟨m, hm, rfl⟩ := List.mem_map.1 hw
      exact (ouW_reads ((K.row s hs).2 m hm)).2.1)]
  unfold orowW
  rw [List.drop_succ_cons, List.drop_zero, List.map_map]
  exact (List.map_congr_left fun m hm => (ouW_reads ((K.row s hs).2 m hm)).1).trans (List.map_id _)

theorem olines_ne {r : Writer} (K : WritOk r) : ∃ o os, olines r = o :: os := by
  cases h : olines r with
  | nil =>
    have : (olines r).length = r.out.length := by simp [olines]
    rw [h, K.n] at this
    have := K.t.n1
    simp at *
    omega
  | cons o os => exact ⟨o, os, rfl⟩

theorem writL_is {r : Writer} (K : WritOk r) : writL r = joinC 10 (tlines r.turner) ++ [10] ++ (joinC 10 (olines r) ++ [10]) := by
  unfold writL
  rw [turnL_is]
  congr 1
  obtain ⟨o, os, h⟩ := olines_ne K
  rw [h, ← lines_join, ← h]
  unfold olines
  rw [List.flatMap_map]
  exact congrArg (fun f => List.flatMap f r.out) (funext olineL_is)

theorem idx_word (T : List UInt8) (k : Int) (h : Lib.index T sepO = k) (hk : 0 ≤ k) : ∀ (x : List UInt8), (10 : UInt8) ∉ x → Lib.index (x ++ T) sepO = (x.length : Int) + k
  | [], _ => by rw [List.nil_append, h]; simp
  | b :: l, hx => by
    have hb : (10 : UInt8) ≠ b := fun e => hx (e ▸ List.mem_cons_self ..)
    have ih := idx_word T k h hk l (fun hm => hx (List.mem_cons_of_mem _ hm))
    have hp : sepO.isPrefixOf (b :: (l ++ T)) = false := by
      show ((10 : UInt8) == b && _) = false
      rw [show ((10 : UInt8) == b) = false from beq_eq_false_iff_ne.2 hb]; rfl
    rw [List.cons_append, Lib.index, if_neg (by rw [hp]; decide), ih, if_neg (by rw [beq_iff_eq]; omega), List.length_cons]
    omega

theorem idx_nl (T : List UInt8) (k : Int) (h : Lib.index (115 :: T) sepO = k) (hk : 0 ≤ k) : Lib.index (10 :: 115 :: T) sepO = k + 1 := by
  have hp : sepO.isPrefixOf (10 :: 115 :: T) = false := rfl
  rw [Lib.index, if_neg (by rw [hp]; decide), h, if_neg (by rw [beq_iff_eq]; omega)]

theorem idx_lines (X : List UInt8) : ∀ (ls : List (List UInt8)) (x : List UInt8), (10 : UInt8) ∉ x → (∀ l, l ∈ ls → (10 : UInt8) ∉ l ∧ ∃ r, l = 115 :: r) → Lib.index (joinC 10 (x :: ls) ++ (sepO ++ X)) sepO = ((joinC 10 (x :: ls)).length : Int)
  | [], x, hx, _ => by
    have := idx_word (sepO ++ X) 0 (by unfold sepO; simp [Lib.index, List.isPrefixOf]) (by decide) x hx
    show Lib.index (x ++ (sepO ++ X)) sepO = (x.length : Int)
    rw [this]; simp
  | y :: ls, x, hx, h => by
    obtain ⟨hy, r, rfl⟩ := h y (by simp)
    have ih := idx_lines X ls (115 :: r) hy (fun l hl => h l (by simp [hl]))
    have hj : joinC 10 ((115 :: r) :: ls) = 115 :: (r ++ ls.flatMap fun w => (10 : UInt8) :: w) := by rw [joinC_flat]; rfl
    rw [hj, List.cons_append] at ih
    rw [joinC_cons 10 x _ (by simp), hj]
    have h1 := idx_nl _ _ ih (by omega)
    have h2 := idx_word _ _ h1 (by omega) x hx
    rw [List.append_assoc, List.cons_append, List.cons_append, h2]
    simp

theorem cutW_is {r : Writer} (K : WritOk r) : ∃ R, joinC 10 (olines r) = outO ++ R ∧ Lib.cut (writL r) sepO = (joinC 10 (tlines r.turner), R ++ [10], true) := by
  obtain ⟨o, os, h⟩ := olines_ne K
  have ho : ∃ q, o = outO ++ q := by
    have hm : o ∈ olines r := by rw [h]; simp
    obtain ⟨row, -, rfl⟩ := List.mem_map.1 hm
    refine ⟨(row.map ouW).flatMap (fun w => (32 : UInt8) :: w), ?_⟩
    unfold orowW
    rw [joinC_flat]
  obtain ⟨q, rfl⟩ := ho
  refine ⟨q ++ os.flatMap (fun w => (10 : UInt8) :: w), by rw [h, joinC_flat, List.append_assoc], ?_⟩
  have ht : writL r = joinC 10 (tlines r.turner) ++ (sepO ++ ((q ++ os.flatMap (fun w => (10 : UInt8) :: w)) ++ [10])) := by
    rw [writL_is K, h, joinC_flat]
    simp [sepO, outO]
  have hi := idx_lines ((q ++ os.flatMap (fun w => (10 : UInt8) :: w)) ++ [10]) (r.turner.moves.map fun row => joinC 32 (rowW row)) (joinC 32 (headW r.turner)) (tlines_free K.t _ (by simp [tlines])) (fun l hl => by
    refine ⟨tlines_free K.t l (by simp [tlines] at hl ⊢; exact .inr hl), ?_⟩
    obtain ⟨row, -, rfl⟩ := List.mem_map.1 hl
    refine ⟨[116, 97, 116, 101] ++ (row.map moveL).flatMap (fun w => (32 : UInt8) :: w), ?_⟩
    unfold rowW
    rw [joinC_flat]
    rfl)
  have hi2 : Lib.index (joinC 10 (tlines r.turner) ++ (sepO ++ ((q ++ os.flatMap (fun w => (10 : UInt8) :: w)) ++ [10]))) sepO = ((joinC 10 (tlines r.turner)).length : Int) := hi
  rw [ht]
  unfold Lib.cut
  rw [hi2, if_pos (by omega), Int.toNat_natCast, List.take_left' rfl]
  rw [show joinC 10 (tlines r.turner) ++ (sepO ++ ((q ++ os.flatMap (fun w => (10 : UInt8) :: w)) ++ [10])) = (joinC 10 (tlines r.turner) ++ sepO) ++ ((q ++ os.flatMap (fun w => (10 : UInt8) :: w)) ++ [10]) from (List.append_assoc _ _ _).symm]
  rw [List.drop_left' (by rw [List.length_append])]

theorem parseW_is {r : Writer} (h : writerOk r = true) : parseW (writL r) = r := by
  have K := writOk_of h
  obtain ⟨R, h1, h2⟩ := cutW_is K
  unfold parseW olinesT
  rw [h2]
  simp only
  rw [← turnL_is, readT_is K.v, ← List.append_assoc, trim_hit, ← h1, splitL_of 10 _ (by obtain ⟨o, os, h⟩ := olines_ne K; rw [h]; simp) (olines_free K)]
  unfold olines
  rw [List.map_map]
  have e6 : r.out.map (orowT ∘ fun row => joinC 32 (orowW row)) = r.out := (List.map_congr_left fun x hx => orowT_is K hx).trans (List.map_id _)
  rw [e6]

theorem readW_is {r : Writer} (h : writerOk r = true) : readW (writL r) = (r, 0) := by
  have K := writOk_of h
  obtain ⟨R, h1, h2⟩ := cutW_is K
  unfold readW
  rw [if_neg (by have := K.writL_le; omega), if_neg (by rw [h2]; simp), parseW_is h, if_pos ⟨h, rfl⟩]

theorem join_last : ∀ (ls : List (List UInt8)), ls ≠ [] → (∀ l, l ∈ ls → l ≠ [] ∧ (10 : UInt8) ∉ l) → ∃ a b, joinC 10 ls = a ++ [b] ∧ b ≠ 10
  | [], h, _ => absurd rfl h
  | [x], _, h => by
    obtain ⟨h1, h2⟩ := h x (by simp)
    refine ⟨x.dropLast, x.getLast h1, (List.dropLast_concat_getLast h1).symm, fun e => h2 (by rw [← e]; exact List.getLast_mem h1)⟩
  | x :: y :: ls, _, h => by
    obtain ⟨a, b, h1, h2⟩ := join_last (y :: ls) (by simp) (fun l hl => h l (by simp at hl ⊢; exact .inr hl))
    refine ⟨x ++ 10 :: a, b, ?_, h2⟩
    rw [joinC_cons 10 x _ (by simp), h1]
    simp

/-- A writer's text without its last byte is no writer's text. -/
theorem readW_less {r : Writer} (h : writerOk r = true) : readW ((writL r).take ((writL r).length - 1)) = (noWrit, 5) := by
  have K := writOk_of h
  have hw := writL_is K
  rw [← List.append_assoc] at hw
  have ht : (writL r).take ((writL r).length - 1) = joinC 10 (tlines r.turner) ++ [10] ++ joinC 10 (olines r) := by
    rw [hw, List.length_append (bs := [10]), List.length_singleton, Nat.add_sub_cancel, List.take_left' rfl]
  have hle := K.writL_le
  obtain ⟨a, b, h1, h2⟩ := join_last (olines r) (by obtain ⟨o, os, h⟩ := olines_ne K; rw [h]; simp) (fun l hl => ⟨by
    obtain ⟨row, -, rfl⟩ := List.mem_map.1 hl
    unfold orowW
    rw [joinC_flat]
    simp [outO], olines_free K l hl⟩)
  have hlen : ((writL r).take ((writL r).length - 1)).length ≤ 667 := by rw [List.length_take]; omega
  have hno : ∀ v : Writer, writerOk v = true → writL v ≠ (writL r).take ((writL r).length - 1) := by
    intro v hv e
    rw [ht, h1, writL_is (writOk_of hv), ← List.append_assoc, ← List.append_assoc] at e
    exact h2 (List.append_inj_right' e rfl |> fun q => by simpa using q.symm)
  unfold readW
  rw [if_neg (by omega)]
  split
  · rfl
  · rw [if_neg (fun q => hno _ q.1 q.2)]

end Go.Proofs.YtodoghidckelcaaGreatDoor
