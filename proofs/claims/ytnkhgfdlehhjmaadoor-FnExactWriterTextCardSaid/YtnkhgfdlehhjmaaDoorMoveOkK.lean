/-
  What a right move is, and the contracts of the functions that ask it (written by a program of this claim's own, gen_moveok.py).
-/
import Derived.Test.YtnkhgfdlehhjmaaDoorFuncsK
namespace Go.Proofs.YtnkhgfdlehhjmaaDoor
open Go.RowKit

def isStopB (m : Move) : Bool := (m.to == -1 || m.to == -2) && m.dir == 0

/-- A turner's move is right for so many states and letters at the index of a letter or mark. -/
def moveOk (m : Move) (states letters at_ : Int) : Bool :=
  isStopB m || (within m.to 0 (states - 1) && within m.dir (-1) 1 && !(at_ == letters && m.dir == -1) && !(at_ == letters + 1 && m.dir == 1))

/-- A pebbler's. -/
def pmoveOk (m : PMove) (states letters at_ : Int) (lies : Bool) : Bool :=
  moveOk ⟨m.to, m.dir⟩ states letters at_ && within m.does 0 2 && (!(decide (m.to < 0) && m.does != 0) && !(lies && m.does == 1) && !(!lies && m.does == 2))

theorem isStop_any (m : Move) (w : World) : Calls Tryd.prog 89 #[.agg #[.int .i64 m.to, .int .i64 m.dir]] w (Gives (.bool (isStopB m)) w) := by
  cases h1 : (m.to == -1) <;> cases h2 : (m.to == -2) <;> cases h3 : (m.dir == 0)
  all_goals
    have hr := Lib.hid (show isStopB m = _ by unfold isStopB; rw [h1, h2, h3])
    go_enter Tryd.func89, Tryd.ntmps89
    go_wp2
    go_ret
    exact ⟨by rw [hr.out]; rfl, (Below.refl _ _).alloc (Nat.le_refl _) _⟩

theorem isStop_is (r : Bool) (m : Move) (w : World) (h : isStopB m = r) : Calls Tryd.prog 89 #[.agg #[.int .i64 m.to, .int .i64 m.dir]] w (Gives (.bool r) w) := h ▸ isStop_any m w

theorem stops_any (m : Move) (w : World) : Calls Tryd.prog 83 #[.agg #[.int .i64 m.to, .int .i64 m.dir]] w (Gives (.bool (decide (m.to < 0))) w) := by
  go_enter Tryd.func83, Tryd.ntmps83
  go_wp2
  go_ret
  exact ⟨rfl, (Below.refl _ _).alloc (Nat.le_refl _) _⟩

set_option maxHeartbeats 1000000 in
theorem isMove_any (m : Move) (states letters at_ : Int) (w : World) (hs : 0 ≤ states ∧ states ≤ 1152921504606846976) (hl : -1152921504606846976 ≤ letters ∧ letters ≤ 1152921504606846976) :
    Calls Tryd.prog 76 #[.agg #[.int .i64 m.to, .int .i64 m.dir], .int .i64 states, .int .i64 letters, .int .i64 at_] w (Gives (.bool (moveOk m states letters at_)) w) := by
  have hw1 : IntKind.i64.wrap (states - 1) = states - 1 := IntWalk.i64_in _ ⟨by omega, by omega⟩
  have hw2 : IntKind.i64.wrap (letters + 1) = letters + 1 := IntWalk.i64_in _ ⟨by omega, by omega⟩
  clear hs hl
  cases h0 : isStopB m
  case true =>
    have hr := Lib.hid (show moveOk m states letters at_ = true by unfold moveOk; rw [h0]; rfl)
    have H0 := Lib.hid h0; clear h0
    go_enter Tryd.func76, Tryd.ntmps76
    go_wp2_with fail
    generalize hW : w.alloc _ = w0
    obtain ⟨A0, hB⟩ := blk1 hW
    clear hW
    refine (isStop_is true m _ H0.out).mono ?_
    rintro e w1 ⟨rfl, hbl⟩
    have B1 := hB.trans (hbl.mono hB.size)
    clear hbl hB A0
    go_wp2
    go_ret
    exact ⟨by rw [hr.out]; rfl, B1⟩
  have H0 := Lib.hid h0
  cases h1 : within m.to 0 (states - 1)
  case false =>
    have hr := Lib.hid (show moveOk m states letters at_ = false by unfold moveOk; rw [h0, h1]; rfl)
    have H1 := Lib.hid h1; clear h0 h1
    go_enter Tryd.func76, Tryd.ntmps76
    go_wp2_with fail
    generalize hW : w.alloc _ = w0
    obtain ⟨A0, hB⟩ := blk1 hW
    clear hW
    refine (isStop_is false m _ H0.out).mono ?_
    rintro e w1 ⟨rfl, hbl⟩
    have B1 := hB.trans (hbl.mono hB.size)
    have A1 := A0.of hbl A0.lt
    have c0 := A1.cell 0 rfl
    have c1 := A1.cell 1 rfl
    clear hbl hB A0 A1
    have HB1 := Lib.hid B1; clear B1
    go_wp2_with fail
    refine (within_kis false _ _ _ _ H1.out).mono ?_
    rintro e w2 ⟨rfl, rfl⟩
    go_wp2
    go_ret
    exact ⟨by rw [hr.out]; rfl, HB1.out⟩
  have H1 := Lib.hid h1
  cases h2 : within m.dir (-1) 1
  case false =>
    have hr := Lib.hid (show moveOk m states letters at_ = false by unfold moveOk; rw [h0, h1, h2]; rfl)
    have H2 := Lib.hid h2; clear h0 h1 h2
    go_enter Tryd.func76, Tryd.ntmps76
    go_wp2_with fail
    generalize hW : w.alloc _ = w0
    obtain ⟨A0, hB⟩ := blk1 hW
    clear hW
    refine (isStop_is false m _ H0.out).mono ?_
    rintro e w1 ⟨rfl, hbl⟩
    have B1 := hB.trans (hbl.mono hB.size)
    have A1 := A0.of hbl A0.lt
    have c0 := A1.cell 0 rfl
    have c1 := A1.cell 1 rfl
    clear hbl hB A0 A1
    have HB1 := Lib.hid B1; clear B1
    go_wp2_with fail
    refine (within_kis true _ _ _ _ H1.out).mono ?_
    rintro e w2 ⟨rfl, rfl⟩
    go_wp2_with fail
    refine (within_kis false _ _ _ _ H2.out).mono ?_
    rintro e w3 ⟨rfl, rfl⟩
    go_wp2
    go_ret
    exact ⟨by rw [hr.out]; rfl, HB1.out⟩
  have H2 := Lib.hid h2
  cases h3 : (at_ == letters) <;> cases h4 : (m.dir == -1) <;> cases h5 : (at_ == letters + 1) <;> cases h6 : (m.dir == 1)
  all_goals
    have hr := Lib.hid (show moveOk m states letters at_ = _ by unfold moveOk; rw [h0, h1, h2, h3, h4, h5, h6])
    clear h0 h1 h2
    go_enter Tryd.func76, Tryd.ntmps76
    go_wp2_with fail
    generalize hW : w.alloc _ = w0
    obtain ⟨A0, hB⟩ := blk1 hW
    clear hW
    refine (isStop_is false m _ H0.out).mono ?_
    rintro e w1 ⟨rfl, hbl⟩
    have B1 := hB.trans (hbl.mono hB.size)
    have A1 := A0.of hbl A0.lt
    have c0 := A1.cell 0 rfl
    have c1 := A1.cell 1 rfl
    clear hbl hB A0 A1
    have HB1 := Lib.hid B1; clear B1
    go_wp2_with fail
    refine (within_kis true _ _ _ _ H1.out).mono ?_
    rintro e w2 ⟨rfl, rfl⟩
    go_wp2_with fail
    refine (within_kis true _ _ _ _ H2.out).mono ?_
    rintro e w3 ⟨rfl, rfl⟩
    go_wp2
    go_ret
    exact ⟨by rw [hr.out]; rfl, HB1.out⟩

theorem isMove_is (r : Bool) (m : Move) (states letters at_ : Int) (w : World) (hs : 0 ≤ states ∧ states ≤ 1152921504606846976) (hl : -1152921504606846976 ≤ letters ∧ letters ≤ 1152921504606846976) (h : moveOk m states letters at_ = r) :
    Calls Tryd.prog 76 #[.agg #[.int .i64 m.to, .int .i64 m.dir], .int .i64 states, .int .i64 letters, .int .i64 at_] w (Gives (.bool r) w) := h ▸ isMove_any m states letters at_ w hs hl

set_option maxHeartbeats 1000000 in
theorem l02Move_any (m : Move) (states letters at_ : Int) (w : World) (hs : 0 ≤ states ∧ states ≤ 1152921504606846976) (hl : -1152921504606846976 ≤ letters ∧ letters ≤ 1152921504606846976) :
    Calls Tryd.prog 70 #[.agg #[.int .i64 m.to, .int .i64 m.dir], .int .i64 states, .int .i64 letters, .int .i64 at_] w (Gives (.bool (moveOk m states letters at_)) w) := by
  have hw1 : IntKind.i64.wrap (states - 1) = states - 1 := IntWalk.i64_in _ ⟨by omega, by omega⟩
  have hw2 : IntKind.i64.wrap (letters + 1) = letters + 1 := IntWalk.i64_in _ ⟨by omega, by omega⟩
  clear hs hl
  cases h1 : (m.to == -1)
  case true =>
    have hr := Lib.hid (show moveOk m states letters at_ = (m.dir == 0) by have : m.to = -1 := (by simpa using h1); simp [moveOk, isStopB, within, this])
    go_enter Tryd.func70, Tryd.ntmps70
    go_wp2
    go_ret
    exact ⟨by rw [hr.out]; rfl, (Below.refl _ _).alloc (Nat.le_refl _) _⟩
  cases h2 : (m.to == -2)
  case true =>
    have hr := Lib.hid (show moveOk m states letters at_ = (m.dir == 0) by have : m.to = -2 := (by simpa using h2); simp [moveOk, isStopB, within, this])
    go_enter Tryd.func70, Tryd.ntmps70
    go_wp2
    go_ret
    exact ⟨by rw [hr.out]; rfl, (Below.refl _ _).alloc (Nat.le_refl _) _⟩
  have h0 : isStopB m = false := by unfold isStopB; rw [h1, h2]; rfl
  cases t1 : within m.to 0 (states - 1)
  case false =>
    have hr := Lib.hid (show moveOk m states letters at_ = false by unfold moveOk; rw [h0, t1]; rfl)
    have T1 := Lib.hid t1; clear h0 t1
    go_enter Tryd.func70, Tryd.ntmps70
    go_wp2_with fail
    generalize hW : w.alloc _ = w0
    obtain ⟨A0, hB⟩ := blk1 hW
    clear hW
    have c0 := A0.cell 0 rfl
    have c1 := A0.cell 1 rfl
    clear A0
    have HB1 := Lib.hid hB; clear hB
    refine (l00In_is false _ _ _ _ T1.out).mono ?_
    rintro e w2 ⟨rfl, rfl⟩
    go_wp2
    go_ret
    exact ⟨by rw [hr.out]; rfl, HB1.out⟩
  have T1 := Lib.hid t1
  cases t2 : within m.dir (-1) 1
  case false =>
    have hr := Lib.hid (show moveOk m states letters at_ = false by unfold moveOk; rw [h0, t1, t2]; rfl)
    have T2 := Lib.hid t2; clear h0 t1 t2
    go_enter Tryd.func70, Tryd.ntmps70
    go_wp2_with fail
    generalize hW : w.alloc _ = w0
    obtain ⟨A0, hB⟩ := blk1 hW
    clear hW
    have c0 := A0.cell 0 rfl
    have c1 := A0.cell 1 rfl
    clear A0
    have HB1 := Lib.hid hB; clear hB
    refine (l00In_is true _ _ _ _ T1.out).mono ?_
    rintro e w2 ⟨rfl, rfl⟩
    go_wp2_with fail
    refine (l00In_is false _ _ _ _ T2.out).mono ?_
    rintro e w3 ⟨rfl, rfl⟩
    go_wp2
    go_ret
    exact ⟨by rw [hr.out]; rfl, HB1.out⟩
  have T2 := Lib.hid t2
  cases h3 : (at_ == letters) <;> cases h4 : (m.dir == -1) <;> cases h5 : (at_ == letters + 1) <;> cases h6 : (m.dir == 1)
  all_goals
    have hr := Lib.hid (show moveOk m states letters at_ = _ by unfold moveOk; rw [h0, t1, t2, h3, h4, h5, h6])
    clear h0 t1 t2
    go_enter Tryd.func70, Tryd.ntmps70
    go_wp2_with fail
    generalize hW : w.alloc _ = w0
    obtain ⟨A0, hB⟩ := blk1 hW
    clear hW
    have c0 := A0.cell 0 rfl
    have c1 := A0.cell 1 rfl
    clear A0
    have HB1 := Lib.hid hB; clear hB
    refine (l00In_is true _ _ _ _ T1.out).mono ?_
    rintro e w2 ⟨rfl, rfl⟩
    go_wp2_with fail
    refine (l00In_is true _ _ _ _ T2.out).mono ?_
    rintro e w3 ⟨rfl, rfl⟩
    go_wp2
    go_ret
    exact ⟨by rw [hr.out]; rfl, HB1.out⟩

theorem l02Move_is (r : Bool) (m : Move) (states letters at_ : Int) (w : World) (hs : 0 ≤ states ∧ states ≤ 1152921504606846976) (hl : -1152921504606846976 ≤ letters ∧ letters ≤ 1152921504606846976) (h : moveOk m states letters at_ = r) :
    Calls Tryd.prog 70 #[.agg #[.int .i64 m.to, .int .i64 m.dir], .int .i64 states, .int .i64 letters, .int .i64 at_] w (Gives (.bool r) w) := h ▸ l02Move_any m states letters at_ w hs hl

end Go.Proofs.YtnkhgfdlehhjmaaDoor
