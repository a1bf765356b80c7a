/-
  Numbers and moves read by the reference.
-/
import Derived.Test.YtodoghidckelcaaGreatDoorRwS1K
namespace Go.Proofs.YtodoghidckelcaaGreatDoor
open Go.RowKit Go.PlainAid

theorem numL2_at (acc : Int) (l : List UInt8) (k : Nat) (h : k < l.length) : numL2 acc (l.drop k) = if bt (mkB l) k < 48 then -1 else if 57 < bt (mkB l) k then -1 else numL2 (acc * 10 + (bt (mkB l) k - 48)) (l.drop (k + 1)) := by
  rw [bt_mkB l k h, List.drop_eq_getElem_cons h, numL2, List.getD_eq_getElem?_getD, List.getElem?_eq_getElem h]
  simp only [Option.getD_some]
  have e1 : (((l[k].toNat : Nat) : Int) < 48) ↔ l[k].toNat < 48 := by omega
  have e2 : ((57 : Int) < ((l[k].toNat : Nat) : Int)) ↔ 57 < l[k].toNat := by omega
  simp only [e1, e2]

theorem p10_le {k : Nat} (h : k ≤ 8) : 10 ^ k ≤ 100000000 := Nat.pow_le_pow_right (n := 10) (by decide) h

def v9 (s : List UInt8) : Int := if num9 s = -1 then 0 else num9 s

theorem numL2_nonneg : ∀ (l : List UInt8) (a : Nat), numL2 a l = -1 ∨ 0 ≤ numL2 a l
  | [], a => .inr (by show (0 : Int) ≤ (a : Int); omega)
  | c :: l, a => by
    rw [numL2]
    split
    · exact .inl rfl
    · split
      · exact .inl rfl
      · have e : (a : Int) * 10 + ((c.toNat : Int) - 48) = ((a * 10 + (c.toNat - 48) : Nat) : Int) := by omega
        rw [e]
        exact numL2_nonneg l _

set_option maxHeartbeats 4000000 in
set_option maxRecDepth 100000 in
theorem l01Number_any (l : List UInt8) (w : World) (hs : l.length ≤ 1048576) : Calls Tryz.prog 47 #[.string (mkB l)] w (Keeps (.tuple #[.int .i64 (v9 l), .bool (decide (num9 l ≠ -1))]) w) := by
  obtain ⟨T, hT⟩ : ∃ T, T = mkB l := ⟨_, rfl⟩
  have hTs : T.size = l.length := by rw [hT, mkB_size]
  have hb := get_bt T
  have bad : num9 l = -1 → (Value.tuple #[.int .i64 (v9 l), .bool (decide (num9 l ≠ -1))]) = .tuple #[.int .i64 0, .bool false] := by
    intro h
    unfold v9
    rw [if_pos h, h]
    rfl
  rw [← hT]
  by_cases h1 : l.length < 1
  · have hr := bad (by unfold num9; rw [if_pos h1])
    have HR := Lib.hid hr
    obtain ⟨RV, hRV⟩ : ∃ v, v = (Value.tuple #[.int .i64 (v9 l), .bool (decide (num9 l ≠ -1))]) := ⟨_, rfl⟩
    rw [← hRV] at HR ⊢
    have t1 : (T.size : Int) < 1 := by omega
    clear hr h1 bad hT hTs hRV
    go_enter Tryz.func47, Tryz.ntmps47
    go_wp2
    go_ret2
    exact ⟨by rw [HR.out]; rfl, rfl⟩
  have t1 : ¬ (T.size : Int) < 1 := by omega
  by_cases h2 : 9 < l.length
  · have hr := bad (by unfold num9; rw [if_neg h1, if_pos h2])
    have HR := Lib.hid hr
    obtain ⟨RV, hRV⟩ : ∃ v, v = (Value.tuple #[.int .i64 (v9 l), .bool (decide (num9 l ≠ -1))]) := ⟨_, rfl⟩
    rw [← hRV] at HR ⊢
    have t2 : (9 : Int) < (T.size : Int) := by omega
    clear hr h1 h2 bad hT hTs hRV
    go_enter Tryz.func47, Tryz.ntmps47
    go_wp2
    go_ret2
    exact ⟨by rw [HR.out]; rfl, rfl⟩
  have t2 : ¬ (9 : Int) < (T.size : Int) := by omega
  have hb0 : bt T 0 = (((l.getD 0 0).toNat : Nat) : Int) := by rw [hT]; exact bt_mkB l 0 (by omega)
  by_cases h3 : l.getD 0 0 = 48 ∧ 1 < l.length
  · have hr := bad (by unfold num9; rw [if_neg h1, if_neg h2, if_pos h3])
    have HR := Lib.hid hr
    obtain ⟨RV, hRV⟩ : ∃ v, v = (Value.tuple #[.int .i64 (v9 l), .bool (decide (num9 l ≠ -1))]) := ⟨_, rfl⟩
    rw [← hRV] at HR ⊢
    have t3 : (bt T 0 == 48) = true := by rw [hb0, h3.1]; rfl
    have t4 : (1 : Int) < (T.size : Int) := by omega
    have t5 : (0 : Int) < (T.size : Int) := by omega
    clear hr h1 h2 h3 bad hT hTs hRV hb0
    go_enter Tryz.func47, Tryz.ntmps47
    go_wp2
    go_ret2
    exact ⟨by rw [HR.out]; rfl, rfl⟩
  have hr9 : num9 l = numL2 0 l := by unfold num9; rw [if_neg h1, if_neg h2, if_neg h3]
  have key : (bt T 0 == 48) = false ∨ ((bt T 0 == 48) = true ∧ ¬ (1 : Int) < (T.size : Int)) := by
    by_cases e : l.getD 0 0 = 48
    · exact .inr ⟨by rw [hb0, e]; rfl, fun h => h3 ⟨e, by omega⟩⟩
    · refine .inl ?_
      rw [beq_eq_false_iff_ne, hb0]
      intro h
      exact e (UInt8.toNat_inj.1 (by show (l.getD 0 0).toNat = 48; omega))
  have t5 : (0 : Int) < (T.size : Int) := by omega
  obtain ⟨n, hn⟩ : ∃ n, n = l.length := ⟨_, rfl⟩
  rw [← hn] at hTs h1 h2
  obtain ⟨RV, hRV⟩ : ∃ v, v = (Value.tuple #[.int .i64 (v9 l), .bool (decide (num9 l ≠ -1))]) := ⟨_, rfl⟩
  have HBAD := Lib.hid (fun h => hRV.trans (bad h))
  have HGOOD := Lib.hid (fun (a : Nat) (h : num9 l = (a : Int)) => show RV = .tuple #[.int .i64 a, .bool true] from by
    have hne : num9 l ≠ -1 := by omega
    rw [hRV, decide_eq_true hne]
    unfold v9
    rw [if_neg hne, h])
  rw [← hRV]
  have HT := Lib.hid hT; have HN := Lib.hid hn; have H9 := Lib.hid hr9; have HTS := Lib.hid hTs
  have hn9 : n ≤ 9 := by omega
  clear bad hT hn hr9 hb0 h3 hRV h1 h2 hTs hs
  have walk : ∀ (_ : Unit), Calls Tryz.prog 47 #[.string T] w (Keeps RV w) := by
    intro _
    rcases key with t3 | ⟨t3, t4⟩
    all_goals
      go_enter Tryz.func47, Tryz.ntmps47
      go_wp2
      go_loop [4, 5] (fun nn i => ∃ k : Nat, ∃ a : Nat, k ≤ n ∧ nn = .int .i64 a ∧ i = .int .i64 k ∧ Hid (num9 l = numL2 a (l.drop k)) ∧ Hid (a < 10 ^ k)) (fun _ i => n - (intOf i).toNat)
      case atStart => exact ⟨0, 0, by omega, rfl, rfl, Lib.hid (by rw [H9.out]; rfl), Lib.hid (by decide)⟩
      case round =>
        obtain ⟨k, a, hk, rfl, rfl, HE, HA⟩ := hrel
        by_cases hlt : k < n
        case neg =>
          obtain rfl : k = n := by omega
          have t6 : ¬ (k : Int) < (T.size : Int) := by have := HTS.out; omega
          have hr : num9 l = (a : Int) := by
            rw [HE.out, List.drop_of_length_le (by rw [← HN.out]; exact Nat.le_refl _)]
            rfl
          have HR := Lib.hid (HGOOD.out a hr)
          clear hr
          go_wp2
          go_ret2
          exact ⟨by rw [HR.out]; rfl, rfl⟩
        have t6 : (k : Int) < (T.size : Int) := by have := HTS.out; omega
        have b0 := bt_nonneg T k
        have b1 := bt_le T k
        have hst := numL2_at a l k (by rw [← HN.out]; exact hlt)
        rw [← HT.out] at hst
        have ha8 : a < 100000000 := Nat.lt_of_lt_of_le HA.out (p10_le (by omega))
        by_cases c1 : bt T k < 48
        · have hr : num9 l = -1 := by rw [HE.out, hst, if_pos c1]
          have HR := Lib.hid (HBAD.out hr)
          clear hr hst
          go_wp2
          go_ret2
          exact ⟨by rw [HR.out]; rfl, rfl⟩
        by_cases c2 : 57 < bt T k
        · have hr : num9 l = -1 := by rw [HE.out, hst, if_neg c1, if_pos c2]
          have HR := Lib.hid (HBAD.out hr)
          clear hr hst
          go_wp2
          go_ret2
          exact ⟨by rw [HR.out]; rfl, rfl⟩
        obtain ⟨d, hd⟩ : ∃ d : Nat, (d : Int) = bt T k - 48 := ⟨(bt T k - 48).toNat, by omega⟩
        have hr : num9 l = numL2 ((a * 10 + d : Nat) : Int) (l.drop (k + 1)) := by
          rw [HE.out, hst, if_neg c1, if_neg c2, ← hd]
          congr 1
        have HR2 := Lib.hid hr
        have HA2 := Lib.hid (show a * 10 + d < 10 ^ (k + 1) by rw [Nat.pow_succ]; have := HA.out; omega)
        have w1 : IntKind.i64.wrap ((a : Int) * 10) = (a : Int) * 10 := IntWalk.i64_in _ ⟨by omega, by omega⟩
        have w2 : IntKind.u8.wrap (bt T k - 48) = bt T k - 48 := IntWalk.u8_in _ ⟨by omega, by omega⟩
        have w3 : IntKind.i64.wrap (bt T k - 48) = bt T k - 48 := IntWalk.i64_in _ ⟨by omega, by omega⟩
        have w4 : IntKind.i64.wrap ((a : Int) * 10 + (bt T k - 48)) = ((a * 10 + d : Nat) : Int) := by rw [IntWalk.i64_in _ ⟨by omega, by omega⟩]; omega
        have w5 : IntKind.i64.wrap ((k : Int) + 1) = (k : Int) + 1 := IntWalk.i64_in _ ⟨by omega, by omega⟩
        clear hr hst hd
        go_wp2
        go_round
        case rel => exact ⟨k + 1, a * 10 + d, by omega, rfl, by go_num, HR2, HA2⟩
        case measure => simp [intOf]; omega
  exact walk ()

theorem v9_range (l : List UInt8) : 0 ≤ v9 l ∧ v9 l ≤ 9223372036854775807 := by
  unfold v9
  by_cases h : num9 l = -1
  · rw [if_pos h]; omega
  · rw [if_neg h]
    obtain ⟨n, h1, h2⟩ := num9_dec l h
    have hl : l.length ≤ 9 := by
      by_cases h9 : 9 < l.length
      · exfalso
        apply h
        unfold num9
        rw [if_neg (by omega), if_pos h9]
      · omega
    refine ⟨by omega, ?_⟩
    rw [h1]
    have hb : ∀ (k m : Nat), (Lib.decDigits m).length ≤ k → m < 10 ^ k := by
      intro k
      induction k with
      | zero =>
        intro m hm
        rw [Lib.decDigits] at hm
        split at hm
        · simp at hm
        · simp at hm
      | succ k ih =>
        intro m hm
        rw [Lib.decDigits] at hm
        split at hm
        · rename_i h10
          have : 1 ≤ 10 ^ k := Nat.one_le_pow _ _ (by decide)
          rw [Nat.pow_succ]; omega
        · rw [List.length_append, List.length_singleton] at hm
          have := ih (m / 10) (by omega)
          rw [Nat.pow_succ]; omega
    have := hb 9 n (by rw [h2]; exact hl)
    omega

end Go.Proofs.YtodoghidckelcaaGreatDoor
