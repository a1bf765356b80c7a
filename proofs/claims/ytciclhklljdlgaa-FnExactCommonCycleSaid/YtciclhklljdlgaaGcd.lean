/-
  The greatest common divisor and the least common multiple: contracts of the program's and of the reference's functions; CommonCycle.
-/
import Derived.Test.YtciclhklljdlgaaStates
import Derived.Test.YtciclhklljdlgaaValidRot
namespace Go.Proofs.Ytciclhklljdlgaa
open Go.RowKit

/-- a / gcd * b. -/
def mult (a b : Int) : Int := a / (Nat.gcd a.toNat b.toNat : Int) * b

theorem gcd_step (x y : Nat) : Nat.gcd y (x % y) = Nat.gcd x y := by
  rw [Nat.gcd_comm x y, Nat.gcd_rec y x, Nat.gcd_comm]

theorem mult_bounds {a b : Int} (ha : 1 ≤ a) (hb : 1 ≤ b) : 1 ≤ (Nat.gcd a.toNat b.toNat : Int) ∧ (Nat.gcd a.toNat b.toNat : Int) ≤ a ∧ 1 ≤ a / (Nat.gcd a.toNat b.toNat : Int) ∧ a / (Nat.gcd a.toNat b.toNat : Int) ≤ a ∧ 1 ≤ mult a b ∧ mult a b ≤ a * b := by
  obtain ⟨x, rfl⟩ := Int.eq_ofNat_of_zero_le (show 0 ≤ a by omega)
  obtain ⟨y, rfl⟩ := Int.eq_ofNat_of_zero_le (show 0 ≤ b by omega)
  simp only [Int.toNat_natCast]
  have hg : 0 < Nat.gcd x y := Nat.gcd_pos_of_pos_left _ (by omega)
  have hle : Nat.gcd x y ≤ x := Nat.gcd_le_left _ (by omega)
  have hd : 1 ≤ x / Nat.gcd x y := Nat.div_pos hle hg
  have hx : x / Nat.gcd x y ≤ x := Nat.div_le_self _ _
  have e : ((x : Int) / (Nat.gcd x y : Int)) = ((x / Nat.gcd x y : Nat) : Int) := by simp
  refine ⟨by omega, by omega, by rw [e]; omega, by rw [e]; omega, ?_, ?_⟩
  · unfold mult
    simp only [Int.toNat_natCast]
    rw [e, ← Int.natCast_mul]
    have : 1 * 1 ≤ x / Nat.gcd x y * y := Nat.mul_le_mul hd (by omega)
    omega
  · unfold mult
    simp only [Int.toNat_natCast]
    rw [e, ← Int.natCast_mul, ← Int.natCast_mul]
    have : x / Nat.gcd x y * y ≤ x * y := Nat.mul_le_mul_right _ hx
    omega

set_option maxHeartbeats 400000 in
theorem l05Gcd_any (x y : Nat) (w : World) (hx : x ≤ 9223372036854775807) (hy : y ≤ 9223372036854775807) :
    Calls Try.prog 22 #[.int .i64 (x : Int), .int .i64 (y : Int)] w (Keeps (.int .i64 (Nat.gcd x y)) w) := by
  go_enter Try.func22, Try.ntmps22
  go_wp2
  go_loop [0, 1, 5] (fun a b _ => ∃ p q : Nat, a = .int .i64 p ∧ b = .int .i64 q ∧ p ≤ 9223372036854775807 ∧ q ≤ 9223372036854775807 ∧ Hid (Nat.gcd p q = Nat.gcd x y)) (fun _ b _ => (intOf b).toNat)
  case atStart => exact ⟨x, y, rfl, rfl, hx, hy, Lib.hid rfl⟩
  case round =>
    obtain ⟨p, q, rfl, rfl, hp, hq, HG⟩ := hrel
    by_cases h0 : q = 0
    · subst h0
      go_wp2
      go_ret
      exact ⟨by rw [← HG.out, Nat.gcd_zero_right]; rfl, rfl⟩
    · have t0 : ((q : Int) != 0) = true := by simpa using h0
      have q1 : (1 : Int) ≤ (q : Int) := by omega
      have hm : p % q < q := Nat.mod_lt _ (by omega)
      have hs := Lib.hid (gcd_step p q)
      go_wp2
      go_round
      case rel => exact ⟨q, p % q, by go_num, by go_num, hq, by omega, Lib.hid (hs.out.trans HG.out)⟩
      case measure => simp [intOf]; omega

set_option maxHeartbeats 400000 in
theorem divisor_any (x y : Nat) (w : World) (hx : x ≤ 9223372036854775807) (hy : y ≤ 9223372036854775807) :
    Calls Try.prog 39 #[.int .i64 (x : Int), .int .i64 (y : Int)] w (Gives (.int .i64 (Nat.gcd x y)) w) := by
  go_enter Try.func39, Try.ntmps39
  go_wp2
  go_loopw [0, 1] (fun a b wr => ∃ p q : Nat, a = .int .i64 p ∧ b = .int .i64 q ∧ p ≤ 9223372036854775807 ∧ q ≤ 9223372036854775807 ∧ Below w.heap.size w wr ∧ Hid (Nat.gcd p q = Nat.gcd x y)) (fun _ b _ => (intOf b).toNat)
  case atStart => exact ⟨x, y, rfl, rfl, hx, hy, Below.refl _ _, Lib.hid rfl⟩
  case round =>
    obtain ⟨p, q, rfl, rfl, hp, hq, hB, HG⟩ := hrel
    by_cases h0 : q = 0
    · subst h0
      go_wp2
      go_ret
      exact ⟨by rw [← HG.out, Nat.gcd_zero_right]; rfl, hB⟩
    · have t0 : ((q : Int) != 0) = true := by simpa using h0
      have q1 : (1 : Int) ≤ (q : Int) := by omega
      have hm : p % q < q := Nat.mod_lt _ (by omega)
      have hs := Lib.hid (gcd_step p q)
      go_wp2
      go_quiet (fail)
      go_wp2
      go_roundw
      case rel => exact ⟨q, p % q, by go_num, by go_num, hq, by omega, below_drewN hB _, Lib.hid (hs.out.trans HG.out)⟩
      case measure => simp [intOf]; omega

set_option maxHeartbeats 400000 in
theorem multiple_any (a b : Int) (w : World) (ha : 1 ≤ a) (hb : 1 ≤ b) (ha2 : a ≤ 1000000000) (hb2 : b ≤ 1000000000) :
    Calls Try.prog 26 #[.int .i64 a, .int .i64 b] w (Gives (.int .i64 (mult a b)) w) := by
  obtain ⟨g1, g2, q1, q2, m1, m2⟩ := mult_bounds ha hb
  have m3 : mult a b ≤ 1000000000000000000 := by
    have : a * b ≤ 1000000000 * 1000000000 := Int.mul_le_mul ha2 hb2 (by omega) (by omega)
    omega
  have hm := Lib.hid (show mult a b = a / (Nat.gcd a.toNat b.toNat : Int) * b from rfl)
  have c := Lib.hid (divisor_any a.toNat b.toNat w (by omega) (by omega))
  have e1 := Lib.hid (Int.toNat_of_nonneg (show 0 ≤ a by omega))
  have e2 := Lib.hid (Int.toNat_of_nonneg (show 0 ≤ b by omega))
  rw [hm.out] at m1 m3
  clear m2
  generalize (Nat.gcd a.toNat b.toNat : Int) = g at *
  go_enter Try.func26, Try.ntmps26
  go_wp2_with fail
  refine (show Calls Try.prog _ _ w _ from by have := c.out; rw [e1.out, e2.out] at this; exact this).mono ?_
  rintro e w1 ⟨rfl, hbl⟩
  generalize hq : a / g = q at *
  have HQ := Lib.hid hq; clear hq
  have m4 : -9223372036854775808 ≤ q * b := by omega
  have m5 : q * b ≤ 9223372036854775807 := by omega
  go_wp2
  go_ret
  exact ⟨by rw [hm.out, HQ.out]; show Ending.returned (.int .i64 (wrap64 (q * b))) = _; rw [IntWalk.wrap64_in _ ⟨m4, m5⟩], hbl⟩

/-- The least common multiple of lengths. -/
def cycleOf (l : List Int) : Int := l.foldl mult 1

/-- Lengths as CommonCycle wants them. -/
def cyclesOk (l : List Int) : Bool := within l.length 1 4 && l.all fun n => within n 1 12

theorem cycleOf_take (l : List Int) (k : Nat) (hk : k < l.length) : cycleOf (l.take (k + 1)) = mult (cycleOf (l.take k)) (l[k]?.getD 0) := by
  unfold cycleOf
  rw [List.take_succ_eq_append_getElem hk, List.foldl_append]
  simp [List.getElem?_eq_getElem hk]

theorem cycleOf_bounds (l : List Int) (h : ∀ i, i < l.length → 1 ≤ l[i]?.getD 0 ∧ l[i]?.getD 0 ≤ 12) : ∀ k, k ≤ l.length → k ≤ 4 → 1 ≤ cycleOf (l.take k) ∧ cycleOf (l.take k) ≤ 12 ^ k := by
  intro k
  induction k with
  | zero => intro _ _; simp [cycleOf]
  | succ k ih =>
    intro hk h4
    obtain ⟨i1, i2⟩ := ih (by omega) (by omega)
    obtain ⟨h1, h2⟩ := h k (by omega)
    rw [cycleOf_take l k (by omega)]
    obtain ⟨_, _, _, _, m1, m2⟩ := mult_bounds i1 h1
    refine ⟨m1, Int.le_trans m2 ?_⟩
    rw [Int.pow_succ]
    exact Int.mul_le_mul i2 h2 (by omega) (by omega)

theorem pow12_le (k : Nat) (h : k ≤ 4) : (12 : Int) ^ k ≤ 20736 := by
  have : k = 0 ∨ k = 1 ∨ k = 2 ∨ k = 3 ∨ k = 4 := by omega
  rcases this with rfl | rfl | rfl | rfl | rfl <;> decide

end Go.Proofs.Ytciclhklljdlgaa
