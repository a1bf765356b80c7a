/-
  The laws' own markText: a text that hangs on its number alone.
-/
import Derived.Test.YtcifdkliiljmkaaGreatDoorPackA
import Derived.Test.YtcifdkliiljmkaaGreatDoorPackB
import Derived.Laws.IdiomStrings
namespace Go.Proofs.YtcifdkliiljmkaaGreatDoor
open Go.RowKit

def mtLoop (q : Nat) (out : ByteArray) : ByteArray := if h : q = 0 then out else mtLoop (q / 10) (⟨#[UInt8.ofNat (48 + q % 10)]⟩ ++ out)
termination_by q
decreasing_by omega

/-- The text of a number above 0. -/
def mText (k : Int) : ByteArray := ⟨#[109]⟩ ++ mtLoop k.toNat ⟨#[]⟩

theorem mtLoop_zero (out : ByteArray) : mtLoop 0 out = out := by rw [mtLoop]; rfl
theorem mtLoop_pos {q : Nat} (h : 0 < q) (out : ByteArray) : mtLoop q out = mtLoop (q / 10) (⟨#[UInt8.ofNat (48 + q % 10)]⟩ ++ out) := by rw [mtLoop, dif_neg (by omega)]

theorem ten_pow {q s K : Nat} (hq : 0 < q) (h : q * 10 ^ s ≤ K) (hK : K ≤ 4611686018427387904) : s ≤ 18 := by
  refine Nat.le_of_not_lt fun hs => ?_
  have h1 : 10 ^ 19 ≤ 10 ^ s := Nat.pow_le_pow_right (by omega) hs
  have h2 : 10 ^ s ≤ q * 10 ^ s := Nat.le_mul_of_pos_left _ hq
  omega

set_option maxHeartbeats 1000000 in
set_option maxRecDepth 100000 in
theorem markText_any (k : Int) (hk : 0 < k) (hk2 : k ≤ 4611686018427387904) (w : World) : Calls Tryz.prog 59 #[.int .i64 k] w (Gives (.string (mText k)) w) := by
  have t1 : ¬ k ≤ 0 := by omega
  obtain ⟨K, rfl⟩ : ∃ K : Nat, k = K := ⟨k.toNat, by omega⟩
  have HR : Hid (mText (K : Int) = ⟨#[109]⟩ ++ mtLoop K ⟨#[]⟩) := Lib.hid rfl
  obtain ⟨res, hres⟩ : ∃ r, r = mText (K : Int) := ⟨_, rfl⟩
  rw [← hres] at HR ⊢
  clear hres
  go_enter Tryz.func59, Tryz.ntmps59
  go_wp2
  go_loopw [0, 3] (fun n s wr => ∃ q : Nat, ∃ out : ByteArray, n = .int .i64 q ∧ s = .string out ∧ q ≤ 4611686018427387904 ∧ out.size ≤ 19 ∧ Hid (0 < q → q * 10 ^ out.size ≤ K) ∧ Hid (mtLoop q out = mtLoop K ⟨#[]⟩) ∧ Below w.heap.size w wr) (fun n _ _ => (intOf n).toNat)
  case atStart => exact ⟨K, _, rfl, rfl, by omega, by decide, Lib.hid (fun _ => by rw [show (ByteArray.mk #[]).size = 0 from rfl]; omega), Lib.hid rfl, Below.refl _ _⟩
  case round =>
    obtain ⟨q, out, rfl, rfl, hqb, hs, HP, HM, B⟩ := hrel
    by_cases hq : 0 < q
    case neg =>
      obtain rfl : q = 0 := by omega
      have HE : Hid (res = ⟨#[109]⟩ ++ out) := Lib.hid (by rw [HR.out, ← HM.out, mtLoop_zero])
      go_wp2
      go_ret
      exact ⟨by rw [HE.out]; rfl, B⟩
    have h18 := ten_pow hq (HP.out hq) (by omega)
    have hm : q % 10 < 10 := Nat.mod_lt _ (by omega)
    have hpos := mtLoop_pos hq out
    obtain ⟨z, hz⟩ : ∃ z, z = q % 10 := ⟨_, rfl⟩
    have hrem : (q : Int).tmod 10 = (z : Int) := by rw [hz]; rfl
    obtain ⟨y, hy⟩ : ∃ y, y = q / 10 := ⟨_, rfl⟩
    have hquo : (q : Int).tdiv 10 = (y : Int) := by rw [hy]; rfl
    rw [← hz] at hm hpos
    rw [← hy] at hpos
    have hyq : y * 10 ≤ q := by omega
    obtain ⟨d, hd⟩ : ∃ d, d = UInt8.ofNat (48 + z) := ⟨_, rfl⟩
    rw [← hd] at hpos
    have hdn : (d.toNat : Int) = 48 + (z : Int) := by
      rw [hd, UInt8.toNat_ofNat']
      have : (48 + z) % 2 ^ 8 = 48 + z := Nat.mod_eq_of_lt (by omega)
      omega
    have hlt : y < q := by omega
    have HPOS := Lib.hid hpos; clear hpos hz hy hd
    have w0 : IntKind.i64.wrap (48 + (z : Int)) = 48 + (z : Int) := IntWalk.i64_in _ ⟨by omega, by omega⟩
    have w1 : IntKind.i64.wrap (y : Int) = (y : Int) := IntWalk.i64_in _ ⟨by omega, by omega⟩
    have w2 : IntKind.u8.wrap (48 + (z : Int)) = 48 + (z : Int) := IntWalk.u8_in _ ⟨by omega, by omega⟩
    have hcv := run_convert_bytes_back (P := Tryz.prog) (wr.alloc (.cells #[.int .u8 (48 + (z : Int))] 5)) 127 9 5 ⟨wr.heap.size, 0, none⟩ 1 [d] Tryz.underlying127 Tryz.underlying5 Tryz.underlying9 (fun j hj => by
      obtain rfl : j = 0 := by simpa using hj
      rw [Addr.add_lit]
      simp [hdn])
    have hsz : ((⟨#[d]⟩ : ByteArray) ++ out).size = out.size + 1 := by rw [ByteArray.size_append]; exact Nat.add_comm _ _
    have HSZ := Lib.hid hsz; have HDN := Lib.hid hdn
    have hl1 : [d].length = 1 := rfl
    rw [hl1] at hcv
    clear hsz hdn
    go_wp2
    go_roundw
    case rel =>
      refine ⟨y, _, rfl, rfl, by omega, by rw [HSZ.out]; omega, Lib.hid (fun hy => ?_), Lib.hid (by rw [← HM.out, HPOS.out]), B.alloc B.size _⟩
      rw [HSZ.out, Nat.pow_succ, Nat.mul_comm (10 ^ out.size) 10, ← Nat.mul_assoc]
      exact Nat.le_trans (Nat.mul_le_mul_right _ hyq) (HP.out hq)
    case measure => simp [intOf]; omega

end Go.Proofs.YtcifdkliiljmkaaGreatDoor
