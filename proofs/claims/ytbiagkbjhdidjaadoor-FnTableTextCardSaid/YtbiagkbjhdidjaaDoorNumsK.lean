/-
  decimal and numbersText of the program, over the library's FormatInt (written by a program of this claim's own, gen_dec.py).
-/
import Derived.Lib.AppendIntMem
import Derived.Test.YtbiagkbjhdidjaaDoorDecK
import Derived.Test.YtbiagkbjhdidjaaDoorShelfNumK
namespace Go.Proofs.YtbiagkbjhdidjaaDoor
open Go.RowKit

/-- The table of powers of ten reads as it is laid, whatever is done from block B on. -/
def Pow10 (B : Nat) (w : World) : Prop := Lib.TabBelow Tryd.prog B w "internal/strconv.uint64pow10" .u64 Lib.pow10Tab

theorem Pow10.step {B : Nat} {w w1 : World} (h : Pow10 B w) (hb : Below B w w1) : Pow10 B w1 := Lib.TabBelow.on h hb

theorem Pow10.here {B : Nat} {w : World} (h : Pow10 B w) : Lib.TabIs Tryd.prog w "internal/strconv.uint64pow10" .u64 Lib.pow10Tab := Lib.TabBelow.here h

theorem Pow10.up {B B' : Nat} {w : World} (h : Pow10 B w) (hb : B ≤ B') : Pow10 B' w := fun w' b => h w' (b.mono hb)

theorem itoa_nat (n : Nat) : Lib.itoa (n : Int) = Lib.decDigits n := by
  unfold Lib.itoa
  rw [if_neg (by omega)]
  simp

theorem decimal_any (n : Nat) (hn : n ≤ 9223372036854775807) (w : World) (hT : Lib.TabIs Tryd.prog w "internal/strconv.uint64pow10" .u64 Lib.pow10Tab) : Calls Tryd.prog 38 #[.int .i64 n] w (Gives (.string (decB n)) w) := by
  have c := Lib.hid (Any.strconv_FormatInt_10 Tryd.lays173 n (by omega) (by omega) w hT)
  go_enter Tryd.func38, Tryd.ntmps38
  go_wp2_with fail
  refine c.out.mono ?_
  rintro e w' ⟨rfl, k, os, hw⟩
  have b : Below w.heap.size w w' := by rw [hw]; exact Lib.below_grow _ w (Nat.le_refl _) k os
  clear hw
  rw [itoa_nat]
  go_wp2
  go_ret
  exact ⟨rfl, b⟩

/-- Numbers, each with a blank ahead. -/
def numsB (l : List Nat) : ByteArray := l.foldl (fun o n => o ++ (⟨#[32]⟩ ++ decB n)) ⟨#[]⟩

theorem numsB_step (l : List Nat) (k n : Nat) (h : l[k]? = some n) : numsB (l.take (k + 1)) = numsB (l.take k) ++ (⟨#[32]⟩ ++ decB n) := by
  unfold numsB
  obtain ⟨hk, hn⟩ := List.getElem?_eq_some_iff.1 h
  rw [List.take_succ_eq_append_getElem hk, List.foldl_append, hn]
  rfl

theorem numsB_size (l : List Nat) (hb : ∀ n, n ∈ l → n ≤ 9223372036854775807) (k : Nat) (hk : k ≤ l.length) : (numsB (l.take k)).size ≤ 20 * k := by
  induction k with
  | zero => rw [List.take_zero]; exact Nat.le_refl 0
  | succ k ih =>
    have h := List.getElem?_eq_getElem (l := l) (i := k) (by omega)
    rw [numsB_step l k _ h, ByteArray.size_append, ByteArray.size_append]
    have := ih (by omega)
    have := decB_le (hb _ (List.getElem_mem (l := l) (n := k) (by omega)))
    have e : (ByteArray.mk #[32]).size = 1 := rfl
    omega

end Go.Proofs.YtbiagkbjhdidjaaDoor
