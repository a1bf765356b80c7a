/-
  The program's structs as Lean structures, and how they lie in cells (written by a program of this claim's own, gen_structs.py).
-/
import Derived.Test.YtmbecaiieibcjaaShape
namespace Go.Proofs.Ytmbecaiieibcjaa
open Go.RowKit

structure Move where
  to : Int
  dir : Int
deriving DecidableEq, Inhabited

structure PMove where
  to : Int
  dir : Int
  does : Int
deriving DecidableEq, Inhabited

def moveE : Enc Move := viaE (pairE intE intE) fun m => (m.to, m.dir)
def pmoveE : Enc PMove := viaE (pairE intE (pairE intE intE)) fun m => (m.to, m.dir, m.does)

abbrev intsE : Enc (List Int) := sliceE intE 2

abbrev intssE : Enc (List (List Int)) := sliceE intsE 67

abbrev intsssE : Enc (List (List (List Int))) := sliceE intssE 38

abbrev boolsE : Enc (List Bool) := sliceE boolE 4

abbrev boolssE : Enc (List (List Bool)) := sliceE boolsE 37

abbrev strsE : Enc (List ByteArray) := sliceE strE 9

abbrev strssE : Enc (List (List ByteArray)) := sliceE strsE 51

abbrev movesE : Enc (List Move) := sliceE moveE 75

abbrev movessE : Enc (List (List Move)) := sliceE movesE 73

theorem one_of {cs : List Value} (h : cs.length = 1) : ∃ v, cs = [v] := by
  match cs, h with
  | [v], _ => exact ⟨v, rfl⟩

structure Rot where
  letters : Int
  start : Int
  next : List (List Int)
  fin : List Int
deriving DecidableEq, Inhabited

def rotsE : Enc Rot := viaE (pairE intE (pairE intE (pairE intssE (intsE)))) fun r => (r.letters, r.start, r.next, r.fin)

theorem rd_Rot {w : World} {B : Nat} {cs : List Value} {r : Rot} (h : rotsE.rd w B cs r) :
    ∃ v2 v3, cs = [.int .i64 r.letters, .int .i64 r.start, v2, v3] ∧ (-9223372036854775808 ≤ r.letters ∧ r.letters ≤ 9223372036854775807) ∧ (-9223372036854775808 ≤ r.start ∧ r.start ≤ 9223372036854775807) ∧ intssE.rd w B [v2] r.next ∧ intsE.rd w B [v3] r.fin := by
  obtain ⟨c0, _, rfl, ⟨rfl, b0⟩, c1, _, rfl, ⟨rfl, b1⟩, c2, c3, rfl, h2, h3⟩ := h
  obtain ⟨v2, rfl⟩ := one_of (Enc.rd_len _ h2)
  obtain ⟨v3, rfl⟩ := one_of (Enc.rd_len _ h3)
  exact ⟨v2, v3, rfl, b0, b1, h2, h3⟩

theorem ow_Rot {w : World} {v2 v3 : Value} {f2 f3 : List Nat} {r : Rot} (b0 : (-9223372036854775808 ≤ r.letters ∧ r.letters ≤ 9223372036854775807)) (b1 : (-9223372036854775808 ≤ r.start ∧ r.start ≤ 9223372036854775807))
    (h2 : intssE.ow w [v2] r.next f2) (h3 : intsE.ow w [v3] r.fin f3) : rotsE.ow w [.int .i64 r.letters, .int .i64 r.start, v2, v3] r (f2 ++ f3) :=
  ⟨_, _, [], _, rfl, rfl, ⟨⟨rfl, b0⟩, rfl⟩, ⟨_, _, [], _, rfl, rfl, ⟨⟨rfl, b1⟩, rfl⟩, ⟨_, _, _, _, rfl, rfl, h2, h3⟩⟩⟩

theorem ow_Rot_inv {w : World} {cs : List Value} {fp : List Nat} {r : Rot} (h : rotsE.ow w cs r fp) :
    ∃ v2 f2 v3 f3, cs = [.int .i64 r.letters, .int .i64 r.start, v2, v3] ∧ (-9223372036854775808 ≤ r.letters ∧ r.letters ≤ 9223372036854775807) ∧ (-9223372036854775808 ≤ r.start ∧ r.start ≤ 9223372036854775807) ∧ intssE.ow w [v2] r.next f2 ∧ intsE.ow w [v3] r.fin f3 ∧ fp = f2 ++ f3 := by
  obtain ⟨c0, d0, f0, g0, rfl, rfl, ⟨⟨rfl, b0⟩, rfl⟩, c1, d1, f1, g1, rfl, rfl, ⟨⟨rfl, b1⟩, rfl⟩, c2, d2, f2, g2, rfl, rfl, h2, h3⟩ := h
  obtain ⟨v2, rfl⟩ := one_of (Enc.rd_len _ (Enc.rd_ow _ h2))
  obtain ⟨v3, rfl⟩ := one_of (Enc.rd_len _ (Enc.rd_ow _ h3))
  exact ⟨v2, f2, v3, _, rfl, b0, b1, h2, h3, by simp⟩

structure Reader where
  letters : Int
  start : Int
  accept : List Bool
  next : List (List Int)
deriving DecidableEq, Inhabited

def readE : Enc Reader := viaE (pairE intE (pairE intE (pairE boolsE (intssE)))) fun r => (r.letters, r.start, r.accept, r.next)

theorem rd_Reader {w : World} {B : Nat} {cs : List Value} {r : Reader} (h : readE.rd w B cs r) :
    ∃ v2 v3, cs = [.int .i64 r.letters, .int .i64 r.start, v2, v3] ∧ (-9223372036854775808 ≤ r.letters ∧ r.letters ≤ 9223372036854775807) ∧ (-9223372036854775808 ≤ r.start ∧ r.start ≤ 9223372036854775807) ∧ boolsE.rd w B [v2] r.accept ∧ intssE.rd w B [v3] r.next := by
  obtain ⟨c0, _, rfl, ⟨rfl, b0⟩, c1, _, rfl, ⟨rfl, b1⟩, c2, c3, rfl, h2, h3⟩ := h
  obtain ⟨v2, rfl⟩ := one_of (Enc.rd_len _ h2)
  obtain ⟨v3, rfl⟩ := one_of (Enc.rd_len _ h3)
  exact ⟨v2, v3, rfl, b0, b1, h2, h3⟩

theorem ow_Reader {w : World} {v2 v3 : Value} {f2 f3 : List Nat} {r : Reader} (b0 : (-9223372036854775808 ≤ r.letters ∧ r.letters ≤ 9223372036854775807)) (b1 : (-9223372036854775808 ≤ r.start ∧ r.start ≤ 9223372036854775807))
    (h2 : boolsE.ow w [v2] r.accept f2) (h3 : intssE.ow w [v3] r.next f3) : readE.ow w [.int .i64 r.letters, .int .i64 r.start, v2, v3] r (f2 ++ f3) :=
  ⟨_, _, [], _, rfl, rfl, ⟨⟨rfl, b0⟩, rfl⟩, ⟨_, _, [], _, rfl, rfl, ⟨⟨rfl, b1⟩, rfl⟩, ⟨_, _, _, _, rfl, rfl, h2, h3⟩⟩⟩

theorem ow_Reader_inv {w : World} {cs : List Value} {fp : List Nat} {r : Reader} (h : readE.ow w cs r fp) :
    ∃ v2 f2 v3 f3, cs = [.int .i64 r.letters, .int .i64 r.start, v2, v3] ∧ (-9223372036854775808 ≤ r.letters ∧ r.letters ≤ 9223372036854775807) ∧ (-9223372036854775808 ≤ r.start ∧ r.start ≤ 9223372036854775807) ∧ boolsE.ow w [v2] r.accept f2 ∧ intssE.ow w [v3] r.next f3 ∧ fp = f2 ++ f3 := by
  obtain ⟨c0, d0, f0, g0, rfl, rfl, ⟨⟨rfl, b0⟩, rfl⟩, c1, d1, f1, g1, rfl, rfl, ⟨⟨rfl, b1⟩, rfl⟩, c2, d2, f2, g2, rfl, rfl, h2, h3⟩ := h
  obtain ⟨v2, rfl⟩ := one_of (Enc.rd_len _ (Enc.rd_ow _ h2))
  obtain ⟨v3, rfl⟩ := one_of (Enc.rd_len _ (Enc.rd_ow _ h3))
  exact ⟨v2, f2, v3, _, rfl, b0, b1, h2, h3, by simp⟩

structure Many where
  letters : Int
  starts : List Int
  accept : List Bool
  next : List (List (List Int))
deriving DecidableEq, Inhabited

def manyE : Enc Many := viaE (pairE intE (pairE intsE (pairE boolsE (intsssE)))) fun r => (r.letters, r.starts, r.accept, r.next)

theorem rd_Many {w : World} {B : Nat} {cs : List Value} {r : Many} (h : manyE.rd w B cs r) :
    ∃ v1 v2 v3, cs = [.int .i64 r.letters, v1, v2, v3] ∧ (-9223372036854775808 ≤ r.letters ∧ r.letters ≤ 9223372036854775807) ∧ intsE.rd w B [v1] r.starts ∧ boolsE.rd w B [v2] r.accept ∧ intsssE.rd w B [v3] r.next := by
  obtain ⟨c0, _, rfl, ⟨rfl, b0⟩, c1, _, rfl, h1, c2, c3, rfl, h2, h3⟩ := h
  obtain ⟨v1, rfl⟩ := one_of (Enc.rd_len _ h1)
  obtain ⟨v2, rfl⟩ := one_of (Enc.rd_len _ h2)
  obtain ⟨v3, rfl⟩ := one_of (Enc.rd_len _ h3)
  exact ⟨v1, v2, v3, rfl, b0, h1, h2, h3⟩

theorem ow_Many {w : World} {v1 v2 v3 : Value} {f1 f2 f3 : List Nat} {r : Many} (b0 : (-9223372036854775808 ≤ r.letters ∧ r.letters ≤ 9223372036854775807))
    (h1 : intsE.ow w [v1] r.starts f1) (h2 : boolsE.ow w [v2] r.accept f2) (h3 : intsssE.ow w [v3] r.next f3) : manyE.ow w [.int .i64 r.letters, v1, v2, v3] r (f1 ++ (f2 ++ (f3))) :=
  ⟨_, _, [], _, rfl, rfl, ⟨⟨rfl, b0⟩, rfl⟩, ⟨_, _, _, _, rfl, rfl, h1, ⟨_, _, _, _, rfl, rfl, h2, h3⟩⟩⟩

theorem ow_Many_inv {w : World} {cs : List Value} {fp : List Nat} {r : Many} (h : manyE.ow w cs r fp) :
    ∃ v1 f1 v2 f2 v3 f3, cs = [.int .i64 r.letters, v1, v2, v3] ∧ (-9223372036854775808 ≤ r.letters ∧ r.letters ≤ 9223372036854775807) ∧ intsE.ow w [v1] r.starts f1 ∧ boolsE.ow w [v2] r.accept f2 ∧ intsssE.ow w [v3] r.next f3 ∧ fp = f1 ++ (f2 ++ (f3)) := by
  obtain ⟨c0, d0, f0, g0, rfl, rfl, ⟨⟨rfl, b0⟩, rfl⟩, c1, d1, f1, g1, rfl, rfl, h1, c2, d2, f2, g2, rfl, rfl, h2, h3⟩ := h
  obtain ⟨v1, rfl⟩ := one_of (Enc.rd_len _ (Enc.rd_ow _ h1))
  obtain ⟨v2, rfl⟩ := one_of (Enc.rd_len _ (Enc.rd_ow _ h2))
  obtain ⟨v3, rfl⟩ := one_of (Enc.rd_len _ (Enc.rd_ow _ h3))
  exact ⟨v1, f1, v2, f2, v3, _, rfl, b0, h1, h2, h3, by simp⟩

structure Turner where
  letters : Int
  start : Int
  moves : List (List Move)
deriving DecidableEq, Inhabited

def turnE : Enc Turner := viaE (pairE intE (pairE intE (movessE))) fun r => (r.letters, r.start, r.moves)

theorem rd_Turner {w : World} {B : Nat} {cs : List Value} {r : Turner} (h : turnE.rd w B cs r) :
    ∃ v2, cs = [.int .i64 r.letters, .int .i64 r.start, v2] ∧ (-9223372036854775808 ≤ r.letters ∧ r.letters ≤ 9223372036854775807) ∧ (-9223372036854775808 ≤ r.start ∧ r.start ≤ 9223372036854775807) ∧ movessE.rd w B [v2] r.moves := by
  obtain ⟨c0, _, rfl, ⟨rfl, b0⟩, c1, c2, rfl, ⟨rfl, b1⟩, h2⟩ := h
  obtain ⟨v2, rfl⟩ := one_of (Enc.rd_len _ h2)
  exact ⟨v2, rfl, b0, b1, h2⟩

theorem ow_Turner {w : World} {v2 : Value} {f2 : List Nat} {r : Turner} (b0 : (-9223372036854775808 ≤ r.letters ∧ r.letters ≤ 9223372036854775807)) (b1 : (-9223372036854775808 ≤ r.start ∧ r.start ≤ 9223372036854775807))
    (h2 : movessE.ow w [v2] r.moves f2) : turnE.ow w [.int .i64 r.letters, .int .i64 r.start, v2] r (f2) :=
  ⟨_, _, [], _, rfl, rfl, ⟨⟨rfl, b0⟩, rfl⟩, ⟨_, _, [], _, rfl, rfl, ⟨⟨rfl, b1⟩, rfl⟩, h2⟩⟩

theorem ow_Turner_inv {w : World} {cs : List Value} {fp : List Nat} {r : Turner} (h : turnE.ow w cs r fp) :
    ∃ v2 f2, cs = [.int .i64 r.letters, .int .i64 r.start, v2] ∧ (-9223372036854775808 ≤ r.letters ∧ r.letters ≤ 9223372036854775807) ∧ (-9223372036854775808 ≤ r.start ∧ r.start ≤ 9223372036854775807) ∧ movessE.ow w [v2] r.moves f2 ∧ fp = f2 := by
  obtain ⟨c0, d0, f0, g0, rfl, rfl, ⟨⟨rfl, b0⟩, rfl⟩, c1, d1, f1, g1, rfl, rfl, ⟨⟨rfl, b1⟩, rfl⟩, h2⟩ := h
  obtain ⟨v2, rfl⟩ := one_of (Enc.rd_len _ (Enc.rd_ow _ h2))
  exact ⟨v2, _, rfl, b0, b1, h2, by simp⟩

structure Pebbler where
  letters : Int
  start : Int
  moves : List (List PMove)
deriving DecidableEq, Inhabited

structure Writer where
  turner : Turner
  out : List (List ByteArray)
deriving DecidableEq, Inhabited

def writE : Enc Writer := viaE (pairE turnE strssE) fun w => (w.turner, w.out)

theorem rd_Writer {w : World} {B : Nat} {cs : List Value} {r : Writer} (h : writE.rd w B cs r) :
    ∃ v2 v3, cs = [.int .i64 r.turner.letters, .int .i64 r.turner.start, v2, v3] ∧ turnE.rd w B [.int .i64 r.turner.letters, .int .i64 r.turner.start, v2] r.turner ∧ strssE.rd w B [v3] r.out := by
  obtain ⟨c0, c1, rfl, h0, h1⟩ := h
  obtain ⟨v2, rfl, b0, b1, h2⟩ := rd_Turner h0
  obtain ⟨v3, rfl⟩ := one_of (Enc.rd_len _ h1)
  exact ⟨v2, v3, rfl, h0, h1⟩

theorem ow_Writer {w : World} {c0 : List Value} {v3 : Value} {f0 f1 : List Nat} {r : Writer} (h0 : turnE.ow w c0 r.turner f0) (h1 : strssE.ow w [v3] r.out f1) : writE.ow w (c0 ++ [v3]) r (f0 ++ f1) := ⟨_, _, _, _, rfl, rfl, h0, h1⟩

end Go.Proofs.Ytmbecaiieibcjaa
