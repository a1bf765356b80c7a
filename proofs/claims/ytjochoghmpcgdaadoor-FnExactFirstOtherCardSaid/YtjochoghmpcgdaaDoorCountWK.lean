/-
  countWords.
-/
import Derived.Test.YtjochoghmpcgdaaDoorFirstDefK
import Derived.Test.YtjochoghmpcgdaaDoorCalmK
namespace Go.Proofs.YtjochoghmpcgdaaDoor
open Go.RowKit

set_option maxHeartbeats 2000000 in
theorem countWords_any (c N : Nat) (hc : 1 ≤ c ∧ c ≤ 3) (hN : N ≤ 60) (w : World) :
    Calls Tryd.prog 22 #[.int .i64 (c : Nat), .int .i64 (N : Nat)] w (fun e w' => ∃ k : Nat, e = .returned (.int .i64 (k : Nat)) ∧ k < 10000 ∧ (2000 < k ↔ 2000 < (allW c N).length) ∧ w' = w) := by
  go_enter Tryd.func22, Tryd.ntmps22
  go_wp2
  go_loopw [5, 6, 8] (fun vs vp vk wr => ∃ (k s p : Nat), k ≤ N ∧ vs = .int .i64 (s : Nat) ∧ vp = .int .i64 (p : Nat) ∧ vk = .int .i64 (k : Nat) ∧ wr = w ∧ s ≤ 2000 ∧ p ≤ s ∧ Hid (s = (allW c k).length) ∧ Hid (p = (wordsN c k).length)) (fun _ _ vk _ => N - (intOf vk).toNat)
  case atStart => exact ⟨0, 1, 1, Nat.zero_le _, rfl, rfl, rfl, rfl, by omega, Nat.le_refl _, Lib.hid rfl, Lib.hid rfl⟩
  case round =>
    obtain ⟨k, s, p, hk, rfl, rfl, rfl, rfl, hs, hp, HS, HP⟩ := hrel
    by_cases hkn : k < N
    case neg =>
      have hkN : k = N := by omega
      go_wp2
      go_ret
      exact ⟨s, rfl, by omega, by rw [HS.out, hkN], rfl⟩
    have hpc : p * c ≤ 6000 := by
      have := Nat.mul_le_mul hp hc.2
      omega
    obtain ⟨q, hq⟩ : ∃ q, q = p * c := ⟨_, rfl⟩
    have hq1 : q = (wordsN c (k + 1)).length := by rw [hq, HP.out, wordsN_len]
    have hs1 : s + q = (allW c (k + 1)).length := by rw [allW_len_succ, ← HS.out, ← hq1]
    have HQ := Lib.hid hq1; have HS1 := Lib.hid hs1
    have wa : IntKind.i64.wrap ((p : Int) * (c : Int)) = (q : Int) := by rw [hq, Int.natCast_mul]; exact IntWalk.i64_in _ ⟨by rw [← Int.natCast_mul]; omega, by rw [← Int.natCast_mul]; omega⟩
    rw [← hq] at hpc
    have wb : IntKind.i64.wrap ((s : Int) + (q : Int)) = (s : Int) + (q : Int) := IntWalk.i64_in _ ⟨by omega, by omega⟩
    clear hq hq1 hs1
    have i1 : (k : Int) < (N : Int) := by omega
    by_cases hb : 2000 < s + q
    · have hb2 : (2000 : Int) < (s : Int) + (q : Int) := by omega
      have hm := allW_mono c (show k + 1 ≤ N by omega)
      rw [← HS1.out] at hm
      have HM := Lib.hid hm
      clear hm
      go_wp2
      go_ret
      exact ⟨s + q, by simp, by omega, by have := HM.out; constructor <;> intro _ <;> omega, rfl⟩
    · have hb2 : ¬ (2000 : Int) < (s : Int) + (q : Int) := by omega
      go_wp2
      go_roundw
      case rel => exact ⟨k + 1, s + q, q, by omega, by simp, rfl, by go_num, by trivial, by omega, by omega, HS1, HQ⟩
      case measure => simp [intOf]; omega

end Go.Proofs.YtjochoghmpcgdaaDoor
