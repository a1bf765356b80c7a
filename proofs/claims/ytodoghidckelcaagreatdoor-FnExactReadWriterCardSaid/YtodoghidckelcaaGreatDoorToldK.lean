/-
  A writer, if it is valid: the program's and the reference's (written by a program of this claim's own, gen_told.py).
-/
import Derived.Test.YtodoghidckelcaaGreatDoorSpecWritOkK
import Derived.Test.YtodoghidckelcaaGreatDoorPackA
namespace Go.Proofs.YtodoghidckelcaaGreatDoor
open Go.RowKit

theorem validWriter_is (b : Bool) (cs : List Value) (r : Writer) (B : Nat) (w : World) (hB0 : B ≤ w.heap.size) (h : writE.rd w B cs r) (hb : writerOk r = b) :
    Calls Tryz.prog 16 #[.agg cs.toArray] w (Gives (.bool b) w) := hb ▸ validWriter_any cs r B w hB0 h
theorem l07Ok_is (b : Bool) (v2 v3 : Value) (r : Writer) (B g : Nat) (w : World) (hB0 : B ≤ w.heap.size) (hA0 : Blk w g [.int .i64 r.turner.letters, .int .i64 r.turner.start, v2, v3] 27)
    (k2 : movessE.rd w B [v2] r.turner.moves) (h3 : strssE.rd w B [v3] r.out) (hb : writerOk r = b) :
    Calls Tryz.prog 11 #[.pointer (some ⟨g, 0, none⟩)] w (Gives (.bool b) w) := hb ▸ l07Ok_any v2 v3 r B g w hB0 hA0 k2 h3

theorem rd_writE {w : World} {B : Nat} {v2 v3 : Value} {r : Writer} (h2 : movessE.rd w B [v2] r.turner.moves) (h3 : strssE.rd w B [v3] r.out) (b0 : -9223372036854775808 ≤ r.turner.letters ∧ r.turner.letters ≤ 9223372036854775807) (b1 : -9223372036854775808 ≤ r.turner.start ∧ r.turner.start ≤ 9223372036854775807) :
    writE.rd w B [.int .i64 r.turner.letters, .int .i64 r.turner.start, v2, v3] r :=
  ⟨[_, _, v2], [v3], rfl, ⟨[_], [_, v2], rfl, ⟨rfl, b0⟩, ⟨[_], [v2], rfl, ⟨rfl, b1⟩, h2⟩⟩, h3⟩

end Go.Proofs.YtodoghidckelcaaGreatDoor
