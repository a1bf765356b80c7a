/-
  The words of deeds, and DeedText of the reference (written by a program of this claim's own, gen_dec.py).
-/
import Derived.Test.YteddgooalncfgaaDoorNumsK
import Derived.Test.YteddgooalncfgaaDoorDeedK
import Derived.Test.YteddgooalncfgaaDoorRepeatK
namespace Go.Proofs.YteddgooalncfgaaDoor
open Go.RowKit

def deedWs : List ByteArray := [⟨#[]⟩, ⟨#[109, 111, 118, 101]⟩, ⟨#[115, 101, 110, 100]⟩, ⟨#[116, 101, 108, 108]⟩, ⟨#[115, 97, 118, 101]⟩, ⟨#[99, 114, 97, 115, 104]⟩, ⟨#[100, 101, 108, 105, 118, 101, 114]⟩, ⟨#[99, 111, 112, 121]⟩, ⟨#[100, 114, 111, 112]⟩]

def deedWord (k : Nat) : ByteArray := deedWs[k]?.getD ⟨#[]⟩

theorem deedWord_size : ∀ k, (deedWord k).size ≤ 7 := by
  intro k
  by_cases h : k < 9
  · have : k = 0 ∨ k = 1 ∨ k = 2 ∨ k = 3 ∨ k = 4 ∨ k = 5 ∨ k = 6 ∨ k = 7 ∨ k = 8 := by omega
    rcases this with rfl | rfl | rfl | rfl | rfl | rfl | rfl | rfl | rfl <;> decide
  · unfold deedWord
    rw [List.getElem?_eq_none (by simp [deedWs]; omega)]
    decide

theorem deedWs_at (k : Nat) (h : k < 9) : (deedWs.map Value.string)[k]? = some (.string (deedWord k)) := by
  have : k = 0 ∨ k = 1 ∨ k = 2 ∨ k = 3 ∨ k = 4 ∨ k = 5 ∨ k = 6 ∨ k = 7 ∨ k = 8 := by omega
  rcases this with rfl | rfl | rfl | rfl | rfl | rfl | rfl | rfl | rfl <;> rfl

/-- The text of a deed. -/
def deedText (d : Deed) : ByteArray :=
  if validDeed d then (if hasTwo d.kind then deedWord d.kind.toNat ++ numsB [d.a.toNat, d.b.toNat] else deedWord d.kind.toNat ++ numsB [d.a.toNat]) else ⟨#[]⟩

/-- The library's MaxLen holds m, whatever is done from block B on. -/
def MaxIs (m : Int) (B : Nat) (w : World) : Prop := ∀ w', Below B w w' → w'.cell? ⟨Tryd.lays146_ren.g 1, 0, none⟩ = some (.int .i64 m)

theorem MaxIs.step {m : Int} {B : Nat} {w w1 : World} (h : MaxIs m B w) (hb : Below B w w1) : MaxIs m B w1 := fun w' b => h w' (hb.trans b)

theorem MaxIs.up {m : Int} {B B' : Nat} {w : World} (h : MaxIs m B w) (hb : B ≤ B') : MaxIs m B' w := fun w' b => h w' (b.mono hb)

theorem l08Words_any (w : World) : Calls Tryd.prog 12 #[] w (Block (deedWs.map Value.string) 9 9 w) := by
  go_enter Tryd.func12, Tryd.ntmps12
  go_wp2
  go_ret
  exact ⟨w.heap.size, rfl, blk_list w (deedWs.map Value.string) 9, Nat.le_refl _, (Below.refl _ _).alloc (Nat.le_refl _) _⟩

theorem split_words : Lib.splitB ⟨#[32]⟩ 0 (Lib.countB ⟨#[32, 109, 111, 118, 101, 32, 115, 101, 110, 100, 32, 116, 101, 108, 108, 32, 115, 97, 118, 101, 32, 99, 114, 97, 115, 104, 32, 100, 101, 108, 105, 118, 101, 114, 32, 99, 111, 112, 121, 32, 100, 114, 111, 112]⟩ ⟨#[32]⟩) ⟨#[32, 109, 111, 118, 101, 32, 115, 101, 110, 100, 32, 116, 101, 108, 108, 32, 115, 97, 118, 101, 32, 99, 114, 97, 115, 104, 32, 100, 101, 108, 105, 118, 101, 114, 32, 99, 111, 112, 121, 32, 100, 114, 111, 112]⟩ = deedWs := by decide +kernel

theorem count_words : Lib.countB ⟨#[32, 109, 111, 118, 101, 32, 115, 101, 110, 100, 32, 116, 101, 108, 108, 32, 115, 97, 118, 101, 32, 99, 114, 97, 115, 104, 32, 100, 101, 108, 105, 118, 101, 114, 32, 99, 111, 112, 121, 32, 100, 114, 111, 112]⟩ ⟨#[32]⟩ = 8 := by decide +kernel

theorem deedWords_any (m : Int) (w : World) (hM : MaxIs m w.heap.size w) : Calls Tryd.prog 17 #[] w (Block (deedWs.map Value.string) 9 9 w) := by
  have c := Lib.hid (Any.strings_Split Tryd.lays146 (by kernel_rfl) ⟨#[32, 109, 111, 118, 101, 32, 115, 101, 110, 100, 32, 116, 101, 108, 108, 32, 115, 97, 118, 101, 32, 99, 114, 97, 115, 104, 32, 100, 101, 108, 105, 118, 101, 114, 32, 99, 111, 112, 121, 32, 100, 114, 111, 112]⟩ ⟨#[32]⟩ m w (by decide) (hM w (Below.refl _ _)) (by decide))
  go_enter Tryd.func17, Tryd.ntmps17
  go_wp2_with fail
  refine c.out.mono ?_
  rintro e w' ⟨rfl, hw⟩
  rw [split_words] at hw
  rw [count_words]
  have hb : Below w.heap.size w w' := by rw [hw]; exact (Below.refl _ _).alloc (Nat.le_refl _) _
  have hk : Blk w' w.heap.size (deedWs.map Value.string) 9 := by rw [hw]; exact blk_list w (deedWs.map Value.string) 9
  clear hw c
  go_wp2
  go_ret
  exact ⟨w.heap.size, rfl, hk, Nat.le_refl _, hb⟩

end Go.Proofs.YteddgooalncfgaaDoor
