/-
  The program's structs as Lean structures, and how they lie in cells (written by a program of this claim's own, gen_structs.py).
-/
import Derived.Test.YtgegpehcddajjaaShape
namespace Go.Proofs.Ytgegpehcddajjaa
open Go.RowKit

structure Move where
  to : Int
  dir : Int
deriving DecidableEq, Inhabited

structure PMove where
  to : Int
  dir : Int
  does : Int
deriving DecidableEq, Inhabited

def moveE : Enc Move := viaE (pairE intE intE) fun m => (m.to, m.dir)
def pmoveE : Enc PMove := viaE (pairE intE (pairE intE intE)) fun m => (m.to, m.dir, m.does)

abbrev intsE : Enc (List Int) := sliceE intE 2

abbrev boolsE : Enc (List Bool) := sliceE boolE 4

abbrev strsE : Enc (List ByteArray) := sliceE strE 9

abbrev movesE : Enc (List Move) := sliceE moveE 67

abbrev movessE : Enc (List (List Move)) := sliceE movesE 65

abbrev pmovesE : Enc (List PMove) := sliceE pmoveE 51

abbrev pmovessE : Enc (List (List PMove)) := sliceE pmovesE 49

theorem one_of {cs : List Value} (h : cs.length = 1) : ∃ v, cs = [v] := by
  match cs, h with
  | [v], _ => exact ⟨v, rfl⟩

structure Rot where
  letters : Int
  start : Int
  next : List (List Int)
  fin : List Int
deriving DecidableEq, Inhabited

structure Reader where
  letters : Int
  start : Int
  accept : List Bool
  next : List (List Int)
deriving DecidableEq, Inhabited

structure Many where
  letters : Int
  starts : List Int
  accept : List Bool
  next : List (List (List Int))
deriving DecidableEq, Inhabited

structure Turner where
  letters : Int
  start : Int
  moves : List (List Move)
deriving DecidableEq, Inhabited

def turnE : Enc Turner := viaE (pairE intE (pairE intE (movessE))) fun r => (r.letters, r.start, r.moves)

theorem rd_Turner {w : World} {B : Nat} {cs : List Value} {r : Turner} (h : turnE.rd w B cs r) :
    ∃ v2, cs = [.int .i64 r.letters, .int .i64 r.start, v2] ∧ (-9223372036854775808 ≤ r.letters ∧ r.letters ≤ 9223372036854775807) ∧ (-9223372036854775808 ≤ r.start ∧ r.start ≤ 9223372036854775807) ∧ movessE.rd w B [v2] r.moves := by
  obtain ⟨c0, _, rfl, ⟨rfl, b0⟩, c1, c2, rfl, ⟨rfl, b1⟩, h2⟩ := h
  obtain ⟨v2, rfl⟩ := one_of (Enc.rd_len _ h2)
  exact ⟨v2, rfl, b0, b1, h2⟩

theorem ow_Turner {w : World} {v2 : Value} {f2 : List Nat} {r : Turner} (b0 : (-9223372036854775808 ≤ r.letters ∧ r.letters ≤ 9223372036854775807)) (b1 : (-9223372036854775808 ≤ r.start ∧ r.start ≤ 9223372036854775807))
    (h2 : movessE.ow w [v2] r.moves f2) : turnE.ow w [.int .i64 r.letters, .int .i64 r.start, v2] r (f2) :=
  ⟨_, _, [], _, rfl, rfl, ⟨⟨rfl, b0⟩, rfl⟩, ⟨_, _, [], _, rfl, rfl, ⟨⟨rfl, b1⟩, rfl⟩, h2⟩⟩

theorem ow_Turner_inv {w : World} {cs : List Value} {fp : List Nat} {r : Turner} (h : turnE.ow w cs r fp) :
    ∃ v2 f2, cs = [.int .i64 r.letters, .int .i64 r.start, v2] ∧ (-9223372036854775808 ≤ r.letters ∧ r.letters ≤ 9223372036854775807) ∧ (-9223372036854775808 ≤ r.start ∧ r.start ≤ 9223372036854775807) ∧ movessE.ow w [v2] r.moves f2 ∧ fp = f2 := by
  obtain ⟨c0, d0, f0, g0, rfl, rfl, ⟨⟨rfl, b0⟩, rfl⟩, c1, d1, f1, g1, rfl, rfl, ⟨⟨rfl, b1⟩, rfl⟩, h2⟩ := h
  obtain ⟨v2, rfl⟩ := one_of (Enc.rd_len _ (Enc.rd_ow _ h2))
  exact ⟨v2, _, rfl, b0, b1, h2, by simp⟩

structure Pebbler where
  letters : Int
  start : Int
  moves : List (List PMove)
deriving DecidableEq, Inhabited

def pebE : Enc Pebbler := viaE (pairE intE (pairE intE (pmovessE))) fun r => (r.letters, r.start, r.moves)

theorem rd_Pebbler {w : World} {B : Nat} {cs : List Value} {r : Pebbler} (h : pebE.rd w B cs r) :
    ∃ v2, cs = [.int .i64 r.letters, .int .i64 r.start, v2] ∧ (-9223372036854775808 ≤ r.letters ∧ r.letters ≤ 9223372036854775807) ∧ (-9223372036854775808 ≤ r.start ∧ r.start ≤ 9223372036854775807) ∧ pmovessE.rd w B [v2] r.moves := by
  obtain ⟨c0, _, rfl, ⟨rfl, b0⟩, c1, c2, rfl, ⟨rfl, b1⟩, h2⟩ := h
  obtain ⟨v2, rfl⟩ := one_of (Enc.rd_len _ h2)
  exact ⟨v2, rfl, b0, b1, h2⟩

theorem ow_Pebbler {w : World} {v2 : Value} {f2 : List Nat} {r : Pebbler} (b0 : (-9223372036854775808 ≤ r.letters ∧ r.letters ≤ 9223372036854775807)) (b1 : (-9223372036854775808 ≤ r.start ∧ r.start ≤ 9223372036854775807))
    (h2 : pmovessE.ow w [v2] r.moves f2) : pebE.ow w [.int .i64 r.letters, .int .i64 r.start, v2] r (f2) :=
  ⟨_, _, [], _, rfl, rfl, ⟨⟨rfl, b0⟩, rfl⟩, ⟨_, _, [], _, rfl, rfl, ⟨⟨rfl, b1⟩, rfl⟩, h2⟩⟩

theorem ow_Pebbler_inv {w : World} {cs : List Value} {fp : List Nat} {r : Pebbler} (h : pebE.ow w cs r fp) :
    ∃ v2 f2, cs = [.int .i64 r.letters, .int .i64 r.start, v2] ∧ (-9223372036854775808 ≤ r.letters ∧ r.letters ≤ 9223372036854775807) ∧ (-9223372036854775808 ≤ r.start ∧ r.start ≤ 9223372036854775807) ∧ pmovessE.ow w [v2] r.moves f2 ∧ fp = f2 := by
  obtain ⟨c0, d0, f0, g0, rfl, rfl, ⟨⟨rfl, b0⟩, rfl⟩, c1, d1, f1, g1, rfl, rfl, ⟨⟨rfl, b1⟩, rfl⟩, h2⟩ := h
  obtain ⟨v2, rfl⟩ := one_of (Enc.rd_len _ (Enc.rd_ow _ h2))
  exact ⟨v2, _, rfl, b0, b1, h2, by simp⟩

structure Writer where
  turner : Turner
  out : List (List ByteArray)
deriving DecidableEq, Inhabited

end Go.Proofs.Ytgegpehcddajjaa
