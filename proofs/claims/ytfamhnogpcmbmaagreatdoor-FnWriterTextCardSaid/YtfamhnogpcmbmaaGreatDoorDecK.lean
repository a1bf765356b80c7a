/-
  Numbers in decimal: Decimal of the reference (written by a program of this claim's own, gen_dec.py).
-/
import Derived.Lib.ItoaNum
import Derived.Laws.IdiomStrings
import Derived.Deep.DeepCutAuto
import Derived.Deep.RegionHeld3
import Derived.Deep.RegionLaw
import Derived.Test.YtfamhnogpcmbmaaGreatDoorPackA
namespace Go.Proofs.YtfamhnogpcmbmaaGreatDoor
open Go.RowKit

/-- A number in decimal. -/
def decB (n : Nat) : ByteArray := ⟨(Lib.decDigits n).toArray⟩

theorem decB_small {n : Nat} (h : n < 10) : decB n = ⟨#[UInt8.ofNat (48 + n)]⟩ := by
  unfold decB
  rw [Lib.decDigits, dif_pos h]

theorem decB_step {n : Nat} (h : 10 ≤ n) : decB n = decB (n / 10) ++ ⟨#[UInt8.ofNat (48 + n % 10)]⟩ := by
  unfold decB
  rw [Lib.decDigits, dif_neg (by omega)]
  apply ByteArray.ext
  simp

theorem decB_len : ∀ (k n : Nat), n < 10 ^ (k + 1) → (decB n).size ≤ k + 1
  | 0, n, h => by
    rw [decB_small (by simpa using h)]
    exact Nat.le_refl 1
  | k + 1, n, h => by
    by_cases h10 : 10 ≤ n
    · rw [decB_step h10, ByteArray.size_append]
      have := decB_len k (n / 10) (by
        rw [Nat.pow_succ] at h
        omega)
      have e : (ByteArray.mk #[UInt8.ofNat (48 + n % 10)]).size = 1 := rfl
      omega
    · rw [decB_small (by omega)]
      have e : (ByteArray.mk #[UInt8.ofNat (48 + n)]).size = 1 := rfl
      omega

theorem decB_le {n : Nat} (h : n ≤ 9223372036854775807) : (decB n).size ≤ 19 := decB_len 18 n (by omega)

theorem u8_digit {v : Nat} (h : v < 10) : ((UInt8.ofNat (48 + v)).toNat : Int) = 48 + (v : Int) := by
  rw [UInt8.toNat_ofNat']
  have : (48 + v) % 2 ^ 8 = 48 + v := Nat.mod_eq_of_lt (by omega)
  omega

theorem cell1 (w : World) (v : Value) (ty : TypeId) : (w.alloc (.cells #[v] ty)).cell? ⟨w.heap.size, 0, none⟩ = some v := cell_a1 (cs := [v]) 0 v rfl

/-- string([]byte{c}). -/
theorem conv1 (d : UInt8) (c : Int) (hd : (d.toNat : Int) = c) (g : Nat) (w : World) (h : w.cell? ⟨g, 0, none⟩ = some (.int .u8 c)) : (convert 22 9 (.slice (some ⟨g, 0, none⟩) 1 1)).run Tryz.prog w = .ok (.string ⟨#[d]⟩) w := by
  have := run_convert_bytes_back (P := Tryz.prog) w 22 9 5 ⟨g, 0, none⟩ 1 [d] Tryz.underlying22 Tryz.underlying5 Tryz.underlying9 (fun j hj => by
    obtain rfl : j = 0 := by simpa using hj
    rw [Addr.add_lit]
    simp [hd, h])
  exact this

end Go.Proofs.YtfamhnogpcmbmaaGreatDoor
