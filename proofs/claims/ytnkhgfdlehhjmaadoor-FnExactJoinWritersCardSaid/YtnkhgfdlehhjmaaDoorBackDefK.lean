/-
  BackWriter: what both answer, and the program's own small helpers.
-/
import Derived.Test.YtnkhgfdlehhjmaaDoorNthK
import Derived.Test.YtnkhgfdlehhjmaaDoorRepeatK
import Derived.Test.YtnkhgfdlehhjmaaDoorTurnOutK
import Derived.Test.YtnkhgfdlehhjmaaDoorMWriterK
import Derived.Deep.DeepCutAuto
namespace Go.Proofs.YtnkhgfdlehhjmaaDoor
open Go.RowKit

def letter (a : Nat) : ByteArray := ⟨#[UInt8.ofNat (97 + a)]⟩
def back0 (L : Nat) : List Move := List.replicate L ⟨0, 1⟩ ++ [⟨0, 1⟩, ⟨1, -1⟩]
def back1 (L : Nat) : List Move := List.replicate L ⟨1, -1⟩ ++ [⟨-1, 0⟩, ⟨1, -1⟩]
def noStr (L : Nat) : List ByteArray := List.replicate L ⟨#[]⟩ ++ [⟨#[]⟩, ⟨#[]⟩]
def allStr (L : Nat) : List ByteArray := (List.range L).map letter ++ [⟨#[]⟩, ⟨#[]⟩]

def backWriter (letters : Int) : Writer × Int :=
  if within letters 1 3 then (⟨⟨letters, 0, [back0 letters.toNat, back1 letters.toNat]⟩, [noStr letters.toNat, allStr letters.toNat]⟩, 0) else (default, 2)

theorem cnt_backWriter (letters : Int) : writM.cnt (backWriter letters).1 ≤ 4611686018427387000 := by
  unfold backWriter
  split
  · rename_i h
    have h1 := within_true.1 h
    obtain ⟨L, rfl⟩ : ∃ L : Nat, letters = L := ⟨letters.toNat, by omega⟩
    have : L = 1 ∨ L = 2 ∨ L = 3 := by omega
    rcases this with rfl | rfl | rfl <;> decide
  · decide

theorem nothing_any (L : Nat) (hL : L ≤ 3) (w : World) : Calls Tryd.prog 31 #[.int .i64 L] w (Block (List.replicate (L + 2) (.string ⟨#[]⟩)) 9 (L + 2) w) := by
  obtain ⟨i, hi, hz0, hz1, hz2⟩ := info_parts inf_StringS
  have hmk := make_run (P := Tryd.prog) Tryd.underlying47 hi hz0 hz1 (L + 2) (by rw [hz2]; omega) (by omega)
  have w2 : IntKind.i64.wrap ((L : Int) + 2) = (L : Int) + 2 := IntWalk.i64_in _ ⟨by omega, by omega⟩
  have hc : ((L + 2 : Nat) : Int) = (L : Int) + 2 := by omega
  rw [hc] at hmk
  clear hi hz0 hz1 hz2
  go_enter Tryd.func31, Tryd.ntmps31
  go_wp2
  go_ret
  refine ⟨w.heap.size, rfl, ?_, Nat.le_refl _, (Below.refl _ _).alloc (Nat.le_refl _) _⟩
  have hm := made_alike (Value.cells (.string ByteArray.empty)) (.string ⟨#[]⟩) (by intro i hi; match i, hi with | 0, _ => rfl) (by decide) (L + 2)
  have := Blk.new w (madeCells (Value.cells (.string ByteArray.empty)) (L + 2)) 9
  rw [hm] at this
  exact this

end Go.Proofs.YtnkhgfdlehhjmaaDoor
