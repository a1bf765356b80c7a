/-
  The program's structs as Lean structures, and how they lie in cells (written by a program of this claim's own, gen_structs.py).
-/
import Derived.Test.YtbiagkbjhdidjaaDoorShapeK
namespace Go.Proofs.YtbiagkbjhdidjaaDoor
open Go.RowKit

structure Move where
  to : Int
  dir : Int
deriving DecidableEq, Inhabited

structure PMove where
  to : Int
  dir : Int
  does : Int
deriving DecidableEq, Inhabited

def moveE : Enc Move := viaE (pairE intE intE) fun m => (m.to, m.dir)
def pmoveE : Enc PMove := viaE (pairE intE (pairE intE intE)) fun m => (m.to, m.dir, m.does)

abbrev intsE : Enc (List Int) := sliceE intE 2

abbrev intssE : Enc (List (List Int)) := sliceE intsE 58

abbrev boolsE : Enc (List Bool) := sliceE boolE 4

abbrev strsE : Enc (List ByteArray) := sliceE strE 9

abbrev strssE : Enc (List (List ByteArray)) := sliceE strsE 64

theorem one_of {cs : List Value} (h : cs.length = 1) : ∃ v, cs = [v] := by
  match cs, h with
  | [v], _ => exact ⟨v, rfl⟩

structure Rot where
  letters : Int
  start : Int
  next : List (List Int)
  fin : List Int
deriving DecidableEq, Inhabited

def rotsE : Enc Rot := viaE (pairE intE (pairE intE (pairE intssE (intsE)))) fun r => (r.letters, r.start, r.next, r.fin)

theorem rd_Rot {w : World} {B : Nat} {cs : List Value} {r : Rot} (h : rotsE.rd w B cs r) :
    ∃ v2 v3, cs = [.int .i64 r.letters, .int .i64 r.start, v2, v3] ∧ (-9223372036854775808 ≤ r.letters ∧ r.letters ≤ 9223372036854775807) ∧ (-9223372036854775808 ≤ r.start ∧ r.start ≤ 9223372036854775807) ∧ intssE.rd w B [v2] r.next ∧ intsE.rd w B [v3] r.fin := by
  obtain ⟨c0, _, rfl, ⟨rfl, b0⟩, c1, _, rfl, ⟨rfl, b1⟩, c2, c3, rfl, h2, h3⟩ := h
  obtain ⟨v2, rfl⟩ := one_of (Enc.rd_len _ h2)
  obtain ⟨v3, rfl⟩ := one_of (Enc.rd_len _ h3)
  exact ⟨v2, v3, rfl, b0, b1, h2, h3⟩

theorem ow_Rot {w : World} {v2 v3 : Value} {f2 f3 : List Nat} {r : Rot} (b0 : (-9223372036854775808 ≤ r.letters ∧ r.letters ≤ 9223372036854775807)) (b1 : (-9223372036854775808 ≤ r.start ∧ r.start ≤ 9223372036854775807))
    (h2 : intssE.ow w [v2] r.next f2) (h3 : intsE.ow w [v3] r.fin f3) : rotsE.ow w [.int .i64 r.letters, .int .i64 r.start, v2, v3] r (f2 ++ f3) :=
  ⟨_, _, [], _, rfl, rfl, ⟨⟨rfl, b0⟩, rfl⟩, ⟨_, _, [], _, rfl, rfl, ⟨⟨rfl, b1⟩, rfl⟩, ⟨_, _, _, _, rfl, rfl, h2, h3⟩⟩⟩

theorem ow_Rot_inv {w : World} {cs : List Value} {fp : List Nat} {r : Rot} (h : rotsE.ow w cs r fp) :
    ∃ v2 f2 v3 f3, cs = [.int .i64 r.letters, .int .i64 r.start, v2, v3] ∧ (-9223372036854775808 ≤ r.letters ∧ r.letters ≤ 9223372036854775807) ∧ (-9223372036854775808 ≤ r.start ∧ r.start ≤ 9223372036854775807) ∧ intssE.ow w [v2] r.next f2 ∧ intsE.ow w [v3] r.fin f3 ∧ fp = f2 ++ f3 := by
  obtain ⟨c0, d0, f0, g0, rfl, rfl, ⟨⟨rfl, b0⟩, rfl⟩, c1, d1, f1, g1, rfl, rfl, ⟨⟨rfl, b1⟩, rfl⟩, c2, d2, f2, g2, rfl, rfl, h2, h3⟩ := h
  obtain ⟨v2, rfl⟩ := one_of (Enc.rd_len _ (Enc.rd_ow _ h2))
  obtain ⟨v3, rfl⟩ := one_of (Enc.rd_len _ (Enc.rd_ow _ h3))
  exact ⟨v2, f2, v3, _, rfl, b0, b1, h2, h3, by simp⟩

structure Reader where
  letters : Int
  start : Int
  accept : List Bool
  next : List (List Int)
deriving DecidableEq, Inhabited

def readE : Enc Reader := viaE (pairE intE (pairE intE (pairE boolsE (intssE)))) fun r => (r.letters, r.start, r.accept, r.next)

theorem rd_Reader {w : World} {B : Nat} {cs : List Value} {r : Reader} (h : readE.rd w B cs r) :
    ∃ v2 v3, cs = [.int .i64 r.letters, .int .i64 r.start, v2, v3] ∧ (-9223372036854775808 ≤ r.letters ∧ r.letters ≤ 9223372036854775807) ∧ (-9223372036854775808 ≤ r.start ∧ r.start ≤ 9223372036854775807) ∧ boolsE.rd w B [v2] r.accept ∧ intssE.rd w B [v3] r.next := by
  obtain ⟨c0, _, rfl, ⟨rfl, b0⟩, c1, _, rfl, ⟨rfl, b1⟩, c2, c3, rfl, h2, h3⟩ := h
  obtain ⟨v2, rfl⟩ := one_of (Enc.rd_len _ h2)
  obtain ⟨v3, rfl⟩ := one_of (Enc.rd_len _ h3)
  exact ⟨v2, v3, rfl, b0, b1, h2, h3⟩

theorem ow_Reader {w : World} {v2 v3 : Value} {f2 f3 : List Nat} {r : Reader} (b0 : (-9223372036854775808 ≤ r.letters ∧ r.letters ≤ 9223372036854775807)) (b1 : (-9223372036854775808 ≤ r.start ∧ r.start ≤ 9223372036854775807))
    (h2 : boolsE.ow w [v2] r.accept f2) (h3 : intssE.ow w [v3] r.next f3) : readE.ow w [.int .i64 r.letters, .int .i64 r.start, v2, v3] r (f2 ++ f3) :=
  ⟨_, _, [], _, rfl, rfl, ⟨⟨rfl, b0⟩, rfl⟩, ⟨_, _, [], _, rfl, rfl, ⟨⟨rfl, b1⟩, rfl⟩, ⟨_, _, _, _, rfl, rfl, h2, h3⟩⟩⟩

theorem ow_Reader_inv {w : World} {cs : List Value} {fp : List Nat} {r : Reader} (h : readE.ow w cs r fp) :
    ∃ v2 f2 v3 f3, cs = [.int .i64 r.letters, .int .i64 r.start, v2, v3] ∧ (-9223372036854775808 ≤ r.letters ∧ r.letters ≤ 9223372036854775807) ∧ (-9223372036854775808 ≤ r.start ∧ r.start ≤ 9223372036854775807) ∧ boolsE.ow w [v2] r.accept f2 ∧ intssE.ow w [v3] r.next f3 ∧ fp = f2 ++ f3 := by
  obtain ⟨c0, d0, f0, g0, rfl, rfl, ⟨⟨rfl, b0⟩, rfl⟩, c1, d1, f1, g1, rfl, rfl, ⟨⟨rfl, b1⟩, rfl⟩, c2, d2, f2, g2, rfl, rfl, h2, h3⟩ := h
  obtain ⟨v2, rfl⟩ := one_of (Enc.rd_len _ (Enc.rd_ow _ h2))
  obtain ⟨v3, rfl⟩ := one_of (Enc.rd_len _ (Enc.rd_ow _ h3))
  exact ⟨v2, f2, v3, _, rfl, b0, b1, h2, h3, by simp⟩

structure Many where
  letters : Int
  starts : List Int
  accept : List Bool
  next : List (List (List Int))
deriving DecidableEq, Inhabited

structure Turner where
  letters : Int
  start : Int
  moves : List (List Move)
deriving DecidableEq, Inhabited

structure Pebbler where
  letters : Int
  start : Int
  moves : List (List PMove)
deriving DecidableEq, Inhabited

structure Writer where
  turner : Turner
  out : List (List ByteArray)
deriving DecidableEq, Inhabited

end Go.Proofs.YtbiagkbjhdidjaaDoor
