/-
  The program's isPrime.
-/
import Derived.Test.YtaedgicglddihaaOrdDef
import Derived.Test.YtaedgicglddihaaShape
import Derived.Test.YtaedgicglddihaaRows
namespace Go.Proofs.Ytaedgicglddihaa
open Go.RowKit

theorem ordPrime_no {p d : Nat} (hd : 2 ≤ d) (hdp : d * d ≤ p) (hm : p % d = 0) : ordPrime p = false := by
  have hlt : d < p := Nat.lt_of_lt_of_le (by have := Nat.mul_le_mul_right d hd; omega) hdp
  unfold ordPrime
  rw [List.all_eq_false]
  refine ⟨d, List.mem_range.2 hlt, ?_⟩
  simp
  omega

theorem ordPrime_yes {p d : Nat} (hdp : p < d * d) (h : ∀ e, 2 ≤ e → e < d → p % e ≠ 0) : ordPrime p = true := by
  unfold ordPrime
  rw [List.all_eq_true]
  intro e _
  by_cases h1 : e < 2
  · simp [h1]
  · by_cases h2 : e < d
    · have := h e (by omega) h2
      simp [this]
    · have h3 : d * d ≤ e * e := Nat.mul_le_mul (by omega) (by omega)
      have : p < e * e := by omega
      simp [this]

set_option maxHeartbeats 1000000 in
theorem isPrime_any (p : Nat) (hp : p ≤ 60) (w : World) : Calls Try.prog 19 #[.int .i64 p] w (Gives (.bool (ordPrime p)) w) := by
  go_enter Try.func19, Try.ntmps19
  go_wp2
  go_loopw [3] (fun s wr => ∃ d : Nat, 2 ≤ d ∧ d ≤ 9 ∧ s = .int .i64 d ∧ w = wr ∧ Hid (∀ e, 2 ≤ e → e < d → p % e ≠ 0)) (fun s _ => 9 - (intOf s).toNat)
  case atStart => exact ⟨2, by omega, by omega, rfl, rfl, Lib.hid (fun e h1 h2 => by omega)⟩
  case round =>
    obtain ⟨d, h2, h9, rfl, rfl, HE⟩ := hrel
    obtain ⟨dd, hdd⟩ : ∃ q, q = d * d := ⟨_, rfl⟩
    have hd81 : dd ≤ 81 := by rw [hdd]; exact Nat.mul_le_mul h9 h9
    have hmul : (d : Int) * (d : Int) = (dd : Int) := by rw [hdd, Int.natCast_mul]
    have wd : IntKind.i64.wrap (dd : Int) = (dd : Int) := IntWalk.i64_in _ ⟨by omega, by omega⟩
    have hd0 : ¬ d = 0 := by omega
    have HD := Lib.hid hdd; clear hdd
    by_cases hle : dd ≤ p
    case neg =>
      have hr := Lib.hid (ordPrime_yes (p := p) (d := d) (by have := HD.out; omega) HE.out)
      have t1 : ¬ (dd : Int) ≤ (p : Int) := by omega
      go_wp2
      go_ret
      exact ⟨by rw [hr.out]; rfl, Below.refl _ _⟩
    have t1 : (dd : Int) ≤ (p : Int) := by omega
    have hd8 : d + 1 ≤ 9 := by
      refine Nat.lt_of_le_of_ne h9 (fun e => ?_)
      have := HD.out
      rw [e] at this
      omega
    obtain ⟨z, hz⟩ : ∃ q, q = p % d := ⟨_, rfl⟩
    have hrem : (p : Int).tmod (d : Int) = (z : Int) := by rw [hz]; rfl
    have HZ := Lib.hid hz; clear hz
    by_cases hz0 : z = 0
    · have hr := Lib.hid (ordPrime_no (p := p) (d := d) h2 (by have := HD.out; omega) (by have := HZ.out; omega))
      subst hz0
      go_wp2
      go_ret
      exact ⟨by rw [hr.out]; rfl, Below.refl _ _⟩
    · have t2 : ((z : Int) == 0) = false := by simp; omega
      go_wp2
      go_roundw
      case rel => exact ⟨d + 1, by omega, by omega, by go_num, trivial, Lib.hid (fun e h1 h2 => by by_cases h : e = d; (subst h; rw [← HZ.out]; exact hz0); exact HE.out e h1 (by omega))⟩
      case measure => simp [intOf]; omega

end Go.Proofs.Ytaedgicglddihaa
