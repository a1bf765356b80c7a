/-
  Numbers in decimal: Decimal of the reference (written by a program of this claim's own, gen_dec.py).
-/
import Derived.Lib.ItoaNum
import Derived.Laws.IdiomStrings
import Derived.Deep.DeepCutAuto
import Derived.Deep.RegionHeld3
import Derived.Deep.RegionLaw
import Derived.Test.YtnkhgfdlehhjmaaDoorFuncsK
import Derived.Test.YtnkhgfdlehhjmaaDoorStarK
namespace Go.Proofs.YtnkhgfdlehhjmaaDoor
open Go.RowKit

/-- A number in decimal. -/
def decB (n : Nat) : ByteArray := ⟨(Lib.decDigits n).toArray⟩

theorem decB_small {n : Nat} (h : n < 10) : decB n = ⟨#[UInt8.ofNat (48 + n)]⟩ := by
  unfold decB
  rw [Lib.decDigits, dif_pos h]

theorem decB_step {n : Nat} (h : 10 ≤ n) : decB n = decB (n / 10) ++ ⟨#[UInt8.ofNat (48 + n % 10)]⟩ := by
  unfold decB
  rw [Lib.decDigits, dif_neg (by omega)]
  apply ByteArray.ext
  simp

theorem decB_len : ∀ (k n : Nat), n < 10 ^ (k + 1) → (decB n).size ≤ k + 1
  | 0, n, h => by
    rw [decB_small (by simpa using h)]
    exact Nat.le_refl 1
  | k + 1, n, h => by
    by_cases h10 : 10 ≤ n
    · rw [decB_step h10, ByteArray.size_append]
      have := decB_len k (n / 10) (by
        rw [Nat.pow_succ] at h
        omega)
      have e : (ByteArray.mk #[UInt8.ofNat (48 + n % 10)]).size = 1 := rfl
      omega
    · rw [decB_small (by omega)]
      have e : (ByteArray.mk #[UInt8.ofNat (48 + n)]).size = 1 := rfl
      omega

theorem decB_le {n : Nat} (h : n ≤ 9223372036854775807) : (decB n).size ≤ 19 := decB_len 18 n (by omega)

theorem u8_digit {v : Nat} (h : v < 10) : ((UInt8.ofNat (48 + v)).toNat : Int) = 48 + (v : Int) := by
  rw [UInt8.toNat_ofNat']
  have : (48 + v) % 2 ^ 8 = 48 + v := Nat.mod_eq_of_lt (by omega)
  omega

theorem cell1 (w : World) (v : Value) (ty : TypeId) : (w.alloc (.cells #[v] ty)).cell? ⟨w.heap.size, 0, none⟩ = some v := cell_a1 (cs := [v]) 0 v rfl

/-- string([]byte{c}). -/
theorem conv1 (d : UInt8) (c : Int) (hd : (d.toNat : Int) = c) (g : Nat) (w : World) (h : w.cell? ⟨g, 0, none⟩ = some (.int .u8 c)) : (convert 52 9 (.slice (some ⟨g, 0, none⟩) 1 1)).run Tryd.prog w = .ok (.string ⟨#[d]⟩) w := by
  have := run_convert_bytes_back (P := Tryd.prog) w 52 9 5 ⟨g, 0, none⟩ 1 [d] Tryd.underlying52 Tryd.underlying5 Tryd.underlying9 (fun j hj => by
    obtain rfl : j = 0 := by simpa using hj
    rw [Addr.add_lit]
    simp [hd, h])
  exact this

set_option maxHeartbeats 3000000 in
set_option maxRecDepth 100000 in
theorem specDecimal_any : ∀ (n : Nat), n ≤ 9223372036854775807 → ∀ (w : World), Calls Tryd.prog 41 #[.int .i64 n] w (Gives (.string (decB n)) w) := by
  intro n
  induction n using Nat.strongRecOn with
  | _ n ih =>
    intro hn w
    by_cases h10 : 10 ≤ n
    · obtain ⟨u, hu⟩ : ∃ u : Nat, u = n / 10 := ⟨_, rfl⟩
      obtain ⟨v, hv⟩ : ∃ v : Nat, v = n % 10 := ⟨_, rfl⟩
      have hres := decB_step h10
      rw [← hu, ← hv] at hres
      have IH := Lib.hid (ih u (by omega) (by omega))
      have q1 : (n : Int).tdiv 10 = (u : Int) := by rw [show (n : Int).tdiv 10 = ((n / 10 : Nat) : Int) from rfl, ← hu]
      have q2 : (n : Int) / 10 = (u : Int) := by rw [hu]; rfl
      have r1 : (n : Int).tmod 10 = (v : Int) := by rw [show (n : Int).tmod 10 = ((n % 10 : Nat) : Int) from rfl, ← hv]
      have r2 : (n : Int) % 10 = (v : Int) := by rw [hv]; rfl
      have t1 : decide ((10 : Int) ≤ (n : Int)) = true := by simp; omega
      have t2 : (10 : Int) ≤ (n : Int) := by omega
      have hv10 : v < 10 := by omega
      have hu1 : u ≤ 9223372036854775807 := by omega
      obtain ⟨d, hd⟩ : ∃ d, d = UInt8.ofNat (48 + v) := ⟨_, rfl⟩
      have hdn := u8_digit hv10
      rw [← hd] at hdn hres
      have wu : IntKind.i64.wrap (u : Int) = (u : Int) := IntWalk.i64_in _ ⟨by omega, by omega⟩
      have wv : IntKind.i64.wrap (v : Int) = (v : Int) := IntWalk.i64_in _ ⟨by omega, by omega⟩
      have wa : IntKind.i64.wrap (48 + (v : Int)) = 48 + (v : Int) := IntWalk.i64_in _ ⟨by omega, by omega⟩
      have wb : IntKind.u8.wrap (48 + (v : Int)) = 48 + (v : Int) := IntWalk.u8_in _ ⟨by omega, by omega⟩
      have hsz : ¬ (9223372036854775807 < (decB u).size + 1) := by have := decB_le hu1; omega
      have HRES := Lib.hid hres; have HDN := Lib.hid hdn
      clear hres hdn hd hu hv ih h10
      have hcv := fun (g : Nat) (w' : World) h => conv1 d _ HDN.out g w' h
      have hcv0 := hcv w.heap.size (w.drew.alloc (.cells #[.int .u8 (48 + (v : Int))] 5)) (cell1 _ _ _)
      have hcv1 := hcv w.heap.size (w.alloc (.cells #[.int .u8 (48 + (v : Int))] 5)) (cell1 _ _ _)
      have hcv2 := hcv w.heap.size ((w.alloc (.cells #[.int .u8 (48 + (v : Int))] 5)).drew) (cell1 w _ _)
      have c0 : ((w.alloc (.cells #[.int .u8 (48 + (v : Int))] 5)).drew).cell? ⟨w.heap.size, 0, none⟩ = some (.int .u8 (48 + (v : Int))) := cell1 w _ _
      have l0 : w.heap.size < ((w.alloc (.cells #[.int .u8 (48 + (v : Int))] 5)).drew).heap.size := by
        show w.heap.size < (w.alloc (.cells #[.int .u8 (48 + (v : Int))] 5)).heap.size
        rw [World.size_alloc]
        exact Nat.lt_succ_self _
      have C0 := Lib.hid c0; have L0 := Lib.hid l0; clear c0 l0
      have HCV := Lib.hid hcv; clear hcv
      go_enter Tryd.func41, Tryd.ntmps41
      go_upto_region 2 with fail
      go_region_law (first
        | (go_simp; go_at_call 41
           refine (IH.out _).mono ?_
           rintro e wq ⟨rfl, bq⟩
           have hcq := HCV.out _ (wq.alloc (.cells #[.int .u8 (48 + (v : Int))] 5)) (cell1 _ _ _)
           first
             | (with_reducible have cq := (bq.cell (p := ⟨w.heap.size, 0, none⟩) L0.out).trans C0.out
                have hcr := HCV.out _ _ cq)
             | skip))
      all_goals
        go_wp2
        go_ret
        exact ⟨by rw [HRES.out]; rfl, by
          first
            | exact (((Below.refl w.heap.size w).drew).trans bq).alloc bq.size _
            | exact (((Below.refl w.heap.size w).alloc (Nat.le_refl _) _).drew).trans (bq.mono (by show w.heap.size ≤ (World.alloc w _).heap.size; rw [World.size_alloc]; omega))⟩
    · have hv10 : n < 10 := by omega
      have hres := decB_small hv10
      obtain ⟨d, hd⟩ : ∃ d, d = UInt8.ofNat (48 + n) := ⟨_, rfl⟩
      have hdn := u8_digit hv10
      rw [← hd] at hdn hres
      have t1 : decide ((10 : Int) ≤ (n : Int)) = false := by simp; omega
      have t2 : ¬ (10 : Int) ≤ (n : Int) := by omega
      have wa : IntKind.i64.wrap (48 + (n : Int)) = 48 + (n : Int) := IntWalk.i64_in _ ⟨by omega, by omega⟩
      have wb : IntKind.u8.wrap (48 + (n : Int)) = 48 + (n : Int) := IntWalk.u8_in _ ⟨by omega, by omega⟩
      have HRES := Lib.hid hres; have HDN := Lib.hid hdn
      clear hres hdn hd ih h10
      have hcv0 := conv1 d _ HDN.out w.heap.size (w.alloc (.cells #[.int .u8 (48 + (n : Int))] 5)) (cell1 _ _ _)
      go_enter Tryd.func41, Tryd.ntmps41
      go_wp2
      go_ret
      exact ⟨by rw [HRES.out]; rfl, (Below.refl _ _).alloc (Nat.le_refl _) _⟩

end Go.Proofs.YtnkhgfdlehhjmaaDoor
