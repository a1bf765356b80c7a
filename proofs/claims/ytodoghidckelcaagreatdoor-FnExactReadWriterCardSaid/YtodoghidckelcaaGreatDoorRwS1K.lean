/-
  Texts cut, numbers and moves read by the reference.
-/
import Derived.Test.YtodoghidckelcaaGreatDoorRwTK
import Derived.Test.YtodoghidckelcaaGreatDoorRwPK
namespace Go.Proofs.YtodoghidckelcaaGreatDoor
open Go.RowKit Go.PlainAid

theorem splitL_nil (c : UInt8) : splitL c [] = [[]] := rfl

theorem splitL_snoc (c b : UInt8) : ∀ (l : List UInt8) (P : List (List UInt8)) (y : List UInt8), splitL c l = P ++ [y] → splitL c (l ++ [b]) = if b = c then P ++ [y] ++ [[]] else P ++ [y ++ [b]]
  | [], P, y, h => by
    have hP : P = [] ∧ y = [] := by
      cases P with
      | nil => simp [splitL] at h; exact ⟨rfl, h⟩
      | cons a P =>
        have := congrArg List.length h
        simp [splitL] at this
    obtain ⟨rfl, rfl⟩ := hP
    show splitL c [b] = _
    unfold splitL
    by_cases hb : b = c
    · rw [if_pos hb, if_pos hb]; rfl
    · rw [if_neg hb, if_neg hb]; rfl
  | a :: l, P, y, h => by
    rw [List.cons_append]
    unfold splitL at h ⊢
    by_cases ha : a = c
    · rw [if_pos ha] at h ⊢
      cases P with
      | nil =>
        have h2 := congrArg List.length h
        have h3 := List.length_pos_iff.2 (splitL_ne c l)
        simp at h2
        exact absurd h2 (splitL_ne c l)
      | cons p P =>
        simp only [List.cons_append, List.cons.injEq] at h
        rw [splitL_snoc c b l P y h.2, ← h.1]
        split <;> rfl
    · rw [if_neg ha] at h ⊢
      cases hs : splitL c l with
      | nil => exact absurd hs (splitL_ne c l)
      | cons x ys =>
        rw [hs] at h
        simp only at h
        cases P with
        | nil =>
          simp only [List.nil_append, List.cons.injEq] at h
          obtain ⟨rfl, rfl⟩ := h
          rw [splitL_snoc c b l [] x hs]
          by_cases hb : b = c
          · rw [if_pos hb, if_pos hb]; rfl
          · rw [if_neg hb, if_neg hb]; rfl
        | cons p P =>
          simp only [List.cons_append, List.cons.injEq] at h
          obtain ⟨rfl, rfl⟩ := h
          rw [splitL_snoc c b l (x :: P) y hs]
          by_cases hb : b = c
          · rw [if_pos hb, if_pos hb]; rfl
          · rw [if_neg hb, if_neg hb]; rfl

theorem bt_mkB (l : List UInt8) (k : Nat) (h : k < l.length) : bt (mkB l) k = (((l.getD k 0).toNat : Nat) : Int) := by
  unfold bt
  rw [dif_pos (by rw [mkB_size]; exact h), List.getD_eq_getElem?_getD, List.getElem?_eq_getElem h]
  rfl

theorem ext_mid (l : List UInt8) (a b : Nat) : (mkB l).extract a b = mkB ((l.take b).drop a) := by
  rw [← mkB_of ((mkB l).extract a b)]
  congr 1
  rw [ByteArray.data_extract]
  show (l.toArray.extract a b).toList = _
  rw [Array.toList_extract, List.drop_take]

theorem take_snoc (l : List UInt8) (k : Nat) (h : k < l.length) : l.take (k + 1) = l.take k ++ [l.getD k 0] := by
  rw [List.take_succ_eq_append_getElem h, List.getD_eq_getElem?_getD, List.getElem?_eq_getElem h]
  rfl

set_option maxHeartbeats 4000000 in
set_option maxRecDepth 100000 in
theorem l01Split_any (c : UInt8) (ci : Int) (hci : ((c.toNat : Nat) : Int) = ci) (l : List UInt8) (w : World) (hs : l.length ≤ 1048576) : Calls Tryz.prog 9 #[.string (mkB l), .int .u8 ci] w (Makes strsE id ((splitL c l).map mkB) w) := by
  obtain ⟨T, hT⟩ : ∃ T, T = mkB l := ⟨_, rfl⟩
  have hTs : T.size = l.length := by rw [hT, mkB_size]
  have hb := get_bt T
  have HT := Lib.hid hT; have HCI := Lib.hid hci
  rw [← hT]
  have S := ((Star.nil w).alloc (cs := #[]) (ty := 9)).lit0 (α := ByteArray) (E := strE)
  obtain ⟨n, hn⟩ : ∃ n, n = l.length := ⟨_, rfl⟩
  rw [← hn] at hTs hs
  have HN := Lib.hid hn
  clear hT hci hn
  have HTS := Lib.hid hTs
  clear hTs
  go_enter Tryz.func9, Tryz.ntmps9
  go_wp2
  generalize hW : w.alloc _ = w0 at S ⊢
  clear hW
  obtain ⟨g, hg⟩ : ∃ g, g = w.heap.size := ⟨_, rfl⟩
  rw [← hg] at S ⊢
  clear hg
  go_loopw [5, 6, 7] (fun vo f i wr => ∃ (k fr : Nat) (v : Value) (P : List (List UInt8)), k ≤ n ∧ fr ≤ k ∧ vo = v ∧ f = .int .i64 fr ∧ i = .int .i64 k ∧ Hid (P.length ≤ k ∧ splitL c (l.take k) = P ++ [(l.take k).drop fr]) ∧ Star w wr [oE strsE [v] (P.map mkB)]) (fun _ _ i _ => n - (intOf i).toNat)
  case atStart => exact ⟨0, 0, _, [], by omega, by omega, rfl, rfl, rfl, Lib.hid ⟨by simp, by simp [splitL]⟩, S⟩
  case round =>
    clear S
    obtain ⟨k, fr, v, P, hk, hfr, rfl, rfl, rfl, HP, S⟩ := hrel
    obtain ⟨sa, sn, sc, rfl⟩ := S.slc 0 rfl
    have hl : (P.map mkB).length ≤ 1000000000000 := by rw [List.length_map]; have := HP.out.1; omega
    by_cases hlt : k < n
    case neg =>
      obtain rfl : k = n := by omega
      have hres : splitL c l = P ++ [l.drop fr] := by
        have := HP.out.2
        rwa [show l.take k = l from List.take_of_length_le (by rw [HN.out]; exact Nat.le_refl _)] at this
      have hex : T.extract fr T.size = mkB (l.drop fr) := by rw [HT.out]; exact ext_drop l fr
      have hres2 : (splitL c l).map mkB = P.map mkB ++ [T.extract fr T.size] := by rw [hres, hex, List.map_append]; rfl
      have HRES := Lib.hid hres2
      have hsz : (T.extract fr T.size).size ≤ maxLen := by rw [hex, mkB_size, List.length_drop, ← HN.out]; simp only [maxLen]; omega
      have hts : T.size = k := HTS.out
      have t5 : ¬ (k : Int) < (T.size : Int) := by omega
      have f1 : (0 : Int) ≤ (fr : Int) := by omega
      have f2 : (fr : Int) ≤ (T.size : Int) := by omega
      clear hres hres2 hex hts
      have SA := ((S.alloc (cs := #[.string (T.extract fr T.size)]) (ty := 9)).str (x := T.extract fr T.size) hsz).sel [2, 0]
      go_wp2_with (at_builtin; refine st1_StringS SA rfl rfl rfl rfl cell_a1 (one_mem rfl) hl ?_; intro ja jn jc w9 S9)
      rw [← HRES.out] at S9
      go_ret
      exact S9.done1
    have hkl : k < l.length := by rw [← HN.out]; exact hlt
    have hbk : bt T k = (((l.getD k 0).toNat : Nat) : Int) := by rw [HT.out]; exact bt_mkB l k hkl
    have hts := HTS.out
    have t5 : (k : Int) < (T.size : Int) := by omega
    have wk : IntKind.i64.wrap ((k : Int) + 1) = (k : Int) + 1 := IntWalk.i64_in _ ⟨by omega, by omega⟩
    have hsn := splitL_snoc c (l.getD k 0) (l.take k) P ((l.take k).drop fr) HP.out.2
    rw [← take_snoc l k hkl] at hsn
    by_cases h32 : l.getD k 0 = c
    · rw [if_pos h32] at hsn
      have tb : (bt T k == ci) = true := by rw [hbk, h32, HCI.out]; simp
      have hex : T.extract fr k = mkB ((l.take k).drop fr) := by rw [HT.out]; exact ext_mid l fr k
      have hsz : (T.extract fr k).size ≤ maxLen := by rw [hex, mkB_size, List.length_drop, List.length_take]; simp only [maxLen]; omega
      have hpl : (P ++ [(l.take k).drop fr]).length ≤ k + 1 := by rw [List.length_append]; have := HP.out.1; simp; omega
      have HP2 := Lib.hid (show (P ++ [(l.take k).drop fr]).length ≤ k + 1 ∧ splitL c (l.take (k + 1)) = (P ++ [(l.take k).drop fr]) ++ [(l.take (k + 1)).drop (k + 1)] from ⟨hpl, by rw [hsn]; congr 2; rw [List.drop_of_length_le (by rw [List.length_take]; omega)]⟩)
      have hmm : (P ++ [(l.take k).drop fr]).map mkB = P.map mkB ++ [T.extract fr k] := by rw [hex, List.map_append]; rfl
      have HMM := Lib.hid hmm
      have f1 : (0 : Int) ≤ (fr : Int) := by omega
      have f2 : (fr : Int) ≤ (k : Int) := by omega
      have f3 : (k : Int) ≤ (T.size : Int) := by omega
      clear hsn hbk h32 hex hpl hmm hkl hts
      have SA := ((S.alloc (cs := #[.string (T.extract fr k)]) (ty := 9)).str (x := T.extract fr k) hsz).sel [2, 0]
      go_wp2_with (at_builtin; refine st1_StringS SA rfl rfl rfl rfl cell_a1 (one_mem rfl) hl ?_; intro ja jn jc w9 S9)
      rw [← HMM.out] at S9
      go_roundw
      case rel => exact ⟨k + 1, k + 1, _, P ++ [(l.take k).drop fr], by omega, by omega, rfl, by go_num, by go_num, HP2, S9⟩
      case measure => simp [intOf]; omega
    · rw [if_neg h32] at hsn
      have hne : ¬ bt T k = ci := by
        rw [hbk, ← HCI.out]
        intro e
        exact h32 (UInt8.toNat_inj.1 (by omega))
      have tb : (bt T k == ci) = false := by simpa using hne
      have HP2 := Lib.hid (show P.length ≤ k + 1 ∧ splitL c (l.take (k + 1)) = P ++ [(l.take (k + 1)).drop fr] from ⟨by have := HP.out.1; omega, by rw [hsn, take_snoc l k hkl, List.drop_append_of_le_length (by rw [List.length_take]; omega)]⟩)
      clear hsn hbk h32 hne hkl hts
      go_wp2
      go_roundw
      case rel => exact ⟨k + 1, fr, _, P, by omega, by omega, rfl, rfl, by go_num, HP2, S⟩
      case measure => simp [intOf]; omega

end Go.Proofs.YtodoghidckelcaaGreatDoor
