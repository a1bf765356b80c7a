/-
  What lies at a block's first cells.
-/
import Derived.Test.YtmbecaiieibcjaaValidRead
namespace Go.Proofs.Ytmbecaiieibcjaa
open Go.RowKit

/-- What lies at a block's first cells. -/
structure Hd (w : World) (g : Nat) (cs : List Value) : Prop where
  lt : g < w.heap.size
  cell : ∀ (i : Nat) {v : Value}, cs[i]? = some v → w.cell? ⟨g, i, none⟩ = some v
theorem Hd.of {w w' : World} {g B : Nat} {cs : List Value} (h : Hd w g cs) (hb : Below B w w') (hB : g < B) : Hd w' g cs :=
  ⟨Nat.lt_of_lt_of_le h.lt hb.size, fun i v hv => by rw [hb.cell (p := ⟨g, i, none⟩) hB]; exact h.cell i hv⟩
theorem Hd.left {w : World} {g : Nat} {c1 c2 : List Value} (h : Hd w g (c1 ++ c2)) : Hd w g c1 :=
  ⟨h.lt, fun i v hv => h.cell i (by rw [List.getElem?_append_left (List.getElem?_eq_some_iff.1 hv).1]; exact hv)⟩
theorem Blk.hd {w : World} {g : Nat} {cs : List Value} {ty : TypeId} (h : Blk w g cs ty) : Hd w g cs := ⟨h.lt, fun i _ hv => h.cell i hv⟩

end Go.Proofs.Ytmbecaiieibcjaa
