/-
  decimal and numbersText of the program, over the library's FormatInt (written by a program of this claim's own, gen_dec.py).
-/
import Derived.Lib.AppendIntMem
import Derived.Test.YtodoghidckelcaaGreatDoorPackB
import Derived.Test.YtodoghidckelcaaGreatDoorShelfNumK
namespace Go.Proofs.YtodoghidckelcaaGreatDoor
open Go.RowKit

/-- The table of powers of ten reads as it is laid, whatever is done from block B on. -/
def Pow10 (B : Nat) (w : World) : Prop := Lib.TabBelow Tryz.prog B w "internal/strconv.uint64pow10" .u64 Lib.pow10Tab

theorem Pow10.step {B : Nat} {w w1 : World} (h : Pow10 B w) (hb : Below B w w1) : Pow10 B w1 := Lib.TabBelow.on h hb

theorem Pow10.here {B : Nat} {w : World} (h : Pow10 B w) : Lib.TabIs Tryz.prog w "internal/strconv.uint64pow10" .u64 Lib.pow10Tab := Lib.TabBelow.here h

theorem Pow10.up {B B' : Nat} {w : World} (h : Pow10 B w) (hb : B ≤ B') : Pow10 B' w := fun w' b => h w' (b.mono hb)

theorem itoa_nat (n : Nat) : Lib.itoa (n : Int) = Lib.decDigits n := by
  unfold Lib.itoa
  rw [if_neg (by omega)]
  simp

theorem decimal_any (n : Nat) (hn : n ≤ 9223372036854775807) (w : World) (hT : Lib.TabIs Tryz.prog w "internal/strconv.uint64pow10" .u64 Lib.pow10Tab) : Calls Tryz.prog 78 #[.int .i64 n] w (Gives (.string (decB n)) w) := by
  have c := Lib.hid (Any.strconv_FormatInt_10 Tryz.lays173 n (by omega) (by omega) w hT)
  go_enter Tryz.func78, Tryz.ntmps78
  go_wp2_with fail
  refine c.out.mono ?_
  rintro e w' ⟨rfl, k, os, hw⟩
  have b : Below w.heap.size w w' := by rw [hw]; exact Lib.below_grow _ w (Nat.le_refl _) k os
  clear hw
  rw [itoa_nat]
  go_wp2
  go_ret
  exact ⟨rfl, b⟩

/-- Numbers, each with a blank ahead. -/
def numsB (l : List Nat) : ByteArray := l.foldl (fun o n => o ++ (⟨#[32]⟩ ++ decB n)) ⟨#[]⟩

theorem numsB_step (l : List Nat) (k n : Nat) (h : l[k]? = some n) : numsB (l.take (k + 1)) = numsB (l.take k) ++ (⟨#[32]⟩ ++ decB n) := by
  unfold numsB
  obtain ⟨hk, hn⟩ := List.getElem?_eq_some_iff.1 h
  rw [List.take_succ_eq_append_getElem hk, List.foldl_append, hn]
  rfl

theorem numsB_size (l : List Nat) (hb : ∀ n, n ∈ l → n ≤ 9223372036854775807) (k : Nat) (hk : k ≤ l.length) : (numsB (l.take k)).size ≤ 20 * k := by
  induction k with
  | zero => rw [List.take_zero]; exact Nat.le_refl 0
  | succ k ih =>
    have h := List.getElem?_eq_getElem (l := l) (i := k) (by omega)
    rw [numsB_step l k _ h, ByteArray.size_append, ByteArray.size_append]
    have := ih (by omega)
    have := decB_le (hb _ (List.getElem_mem (l := l) (n := k) (by omega)))
    have e : (ByteArray.mk #[32]).size = 1 := rfl
    omega

set_option maxHeartbeats 1000000 in
theorem numbersText_any (l : List Nat) (m : Nat) (hl : l.length = m) (hm : m ≤ 8) (hb : ∀ n, n ∈ l → n ≤ 9223372036854775807) (q cap : Nat) (w : World) (hq : q < w.heap.size) (hc : ∀ (k n : Nat), l[k]? = some n → w.cell? ⟨q, k, none⟩ = some (.int .i64 (n : Int)))
    (hT : Pow10 w.heap.size w) : Calls Tryz.prog 59 #[.slice (some ⟨q, 0, none⟩) m cap] w (Gives (.string (numsB l)) w) := by
  have HC := Lib.hid hc; have HB := Lib.hid hb; have HL := Lib.hid hl; have HT := Lib.hid hT
  clear hc hb hl hT
  go_enter Tryz.func59, Tryz.ntmps59
  go_wp2
  go_loopw [3, 8] (fun o s wr => ∃ k : Nat, k ≤ m ∧ o = .string (numsB (l.take k)) ∧ s = .int .i64 k ∧ Below w.heap.size w wr) (fun _ s _ => m - (intOf s).toNat)
  case atStart => exact ⟨0, by omega, rfl, rfl, Below.refl _ _⟩
  case round =>
    obtain ⟨k, hk, rfl, rfl, B⟩ := hrel
    by_cases hlt : k < m
    case neg =>
      obtain rfl : k = m := by omega
      have ht : l.take k = l := List.take_of_length_le (Nat.le_of_eq HL.out)
      rw [ht]
      clear ht
      obtain ⟨r, hr⟩ : ∃ r, r = numsB l := ⟨_, rfl⟩
      rw [← hr]
      have HR := Lib.hid hr; clear hr
      go_wp2
      go_ret
      exact ⟨by rw [HR.out]; rfl, B⟩
    obtain ⟨n, hn⟩ : ∃ n, l[k]? = some n := ⟨_, List.getElem?_eq_getElem (by have := HL.out; omega)⟩
    have hn0 := HB.out n (List.mem_of_getElem? hn)
    have cn : wr.cell? ⟨q, k, none⟩ = some (.int .i64 (n : Int)) := (B.cell hq).trans (HC.out k n hn)
    have hst := numsB_step l k n hn
    have hsz := numsB_size l HB.out k (by have := HL.out; omega)
    have hdn := decB_le hn0
    have hdc := Lib.hid (decimal_any n hn0 wr (HT.out.step B).here)
    obtain ⟨o, ho⟩ : ∃ o, o = numsB (l.take k) := ⟨_, rfl⟩
    obtain ⟨dn, hd⟩ : ∃ dn, dn = decB n := ⟨_, rfl⟩
    rw [← ho, ← hd] at hst
    rw [← ho] at hsz
    rw [← hd] at hdn hdc
    rw [← ho]
    have s1 : ¬ (9223372036854775807 < 1 + dn.size) := by omega
    have s2 : ¬ (9223372036854775807 < o.size + (1 + dn.size)) := by omega
    have HST := Lib.hid hst
    clear ho hd hst hn hsz hdn hn0
    go_wp2_with fail
    refine hdc.out.mono ?_
    rintro e w2 ⟨rfl, b⟩
    have B2 := B.trans (b.mono B.size)
    clear hdc b cn B
    go_wp2
    go_roundw
    case rel => exact ⟨k + 1, by omega, by rw [HST.out], by go_num, B2⟩
    case measure => simp [intOf]; omega

end Go.Proofs.YtodoghidckelcaaGreatDoor
