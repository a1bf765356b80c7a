/-
  Contracts of toDeed and of the two ValidDeed (written by a program of this claim's own, gen_deed.py).
-/
import Derived.Test.YteddgooalncfgaaDoorFuncsK
import Derived.Test.YteddgooalncfgaaDoorStatesK
import Derived.Test.YteddgooalncfgaaDoorValidRotK
namespace Go.Proofs.YteddgooalncfgaaDoor
open Go.RowKit

structure Deed where
  kind : Int
  a : Int
  b : Int
deriving DecidableEq, Inhabited

def deedE : Enc Deed := viaE (pairE intE (pairE intE intE)) fun d => (d.kind, d.a, d.b)

theorem rd_Deed {w : World} {B : Nat} {cs : List Value} {d : Deed} (h : deedE.rd w B cs d) :
    cs = [.int .i64 d.kind, .int .i64 d.a, .int .i64 d.b] ∧ (-9223372036854775808 ≤ d.kind ∧ d.kind ≤ 9223372036854775807) ∧ (-9223372036854775808 ≤ d.a ∧ d.a ≤ 9223372036854775807) ∧ (-9223372036854775808 ≤ d.b ∧ d.b ≤ 9223372036854775807) := by
  obtain ⟨c1, _, rfl, ⟨rfl, b1⟩, c2, c3, rfl, ⟨rfl, b2⟩, ⟨rfl, b3⟩⟩ := h
  exact ⟨rfl, b1, b2, b3⟩

set_option maxHeartbeats 400000 in
theorem toDeed_any (k a b : Int) (w : World) : Calls Tryd.prog 6 #[.agg #[.int .i64 k, .int .i64 a, .int .i64 b]] w (Gives (.agg #[.int .i64 k, .int .i64 a, .int .i64 b]) w) := by
  go_enter Tryd.func6, Tryd.ntmps6
  go_wp2
  refine bodyPost_ret (v := .agg #[.int .i64 k, .int .i64 a, .int .i64 b]) (by simp [results, Tryd.results6, go_sem]) rfl ⟨rfl, ?_⟩
  exact (((Below.refl _ _).alloc (Nat.le_refl _) _).alloc (by simp) _).alloc (by simp only [World.size_alloc]; omega) _

/-- The kinds of deeds whose text mentions two numbers. -/
def hasTwo (k : Int) : Bool := decide (k = 1) || decide (k = 3)

/-- A deed that is one. -/
def validDeed (d : Deed) : Bool := within d.kind 1 8 && (within d.a 0 999 && (within d.b 0 999 && (hasTwo d.kind || decide (d.b = 0))))

theorem hasTwo_is (r : Bool) (k : Int) (w : World) (h : hasTwo k = r) : Calls Tryd.prog 16 #[.int .i64 k] w (Keeps (.bool r) w) := by
  by_cases h1 : k = 1
  · have t1 : (k == 1) = true := by simpa using h1
    have hr := Lib.hid (show r = true by rw [← h]; simp [hasTwo, h1])
    clear h h1
    go_enter Tryd.func16, Tryd.ntmps16
    go_wp2
    go_ret
    exact ⟨by rw [hr.out]; rfl, rfl⟩
  · have t1 : (k == 1) = false := by simpa using h1
    by_cases h3 : k = 3
    · have t3 : (k == 3) = true := by simpa using h3
      have hr := Lib.hid (show r = true by rw [← h]; simp [hasTwo, h3])
      clear h h1 h3
      go_enter Tryd.func16, Tryd.ntmps16
      go_wp2
      go_ret
      exact ⟨by rw [hr.out]; rfl, rfl⟩
    · have t3 : (k == 3) = false := by simpa using h3
      have hr := Lib.hid (show r = false by rw [← h]; simp [hasTwo, h1, h3])
      clear h h1 h3
      go_enter Tryd.func16, Tryd.ntmps16
      go_wp2
      go_ret
      exact ⟨by rw [hr.out]; rfl, rfl⟩

theorem l08Two_is (r : Bool) (k : Int) (w : World) (h : hasTwo k = r) : Calls Tryd.prog 14 #[.int .i64 k] w (Keeps (.bool r) w) := by
  by_cases h1 : k = 1
  · have t1 : (k == 1) = true := by simpa using h1
    have hr := Lib.hid (show r = true by rw [← h]; simp [hasTwo, h1])
    clear h h1
    go_enter Tryd.func14, Tryd.ntmps14
    go_wp2
    go_ret
    exact ⟨by rw [hr.out]; rfl, rfl⟩
  · have t1 : (k == 1) = false := by simpa using h1
    by_cases h3 : k = 3
    · have t3 : (k == 3) = true := by simpa using h3
      have hr := Lib.hid (show r = true by rw [← h]; simp [hasTwo, h3])
      clear h h1 h3
      go_enter Tryd.func14, Tryd.ntmps14
      go_wp2
      go_ret
      exact ⟨by rw [hr.out]; rfl, rfl⟩
    · have t3 : (k == 3) = false := by simpa using h3
      have hr := Lib.hid (show r = false by rw [← h]; simp [hasTwo, h1, h3])
      clear h h1 h3
      go_enter Tryd.func14, Tryd.ntmps14
      go_wp2
      go_ret
      exact ⟨by rw [hr.out]; rfl, rfl⟩

set_option maxHeartbeats 400000 in
theorem validDeed_0 (d : Deed) (w : World) (x1 : within d.kind 1 8 = false) :
    Calls Tryd.prog 15 #[.agg #[.int .i64 d.kind, .int .i64 d.a, .int .i64 d.b]] w (Gives (.bool false) w) := by
  have X1 := Lib.hid x1; clear x1
  obtain ⟨k, a, b⟩ := d
  dsimp only at *
  go_enter Tryd.func15, Tryd.ntmps15
  go_wp2_with fail
  refine (within_kis _ _ _ _ _ X1.out).mono ?_
  rintro e w1 ⟨rfl, rfl⟩
  go_wp2_with fail
  go_ret
  exact ⟨rfl, (Below.refl _ _).alloc (Nat.le_refl _) _⟩

set_option maxHeartbeats 400000 in
theorem validDeed_1 (d : Deed) (w : World) (x1 : within d.kind 1 8 = true) (x2 : within d.a 0 999 = false) :
    Calls Tryd.prog 15 #[.agg #[.int .i64 d.kind, .int .i64 d.a, .int .i64 d.b]] w (Gives (.bool false) w) := by
  have X1 := Lib.hid x1; clear x1
  have X2 := Lib.hid x2; clear x2
  obtain ⟨k, a, b⟩ := d
  dsimp only at *
  go_enter Tryd.func15, Tryd.ntmps15
  go_wp2_with fail
  refine (within_kis _ _ _ _ _ X1.out).mono ?_
  rintro e w1 ⟨rfl, rfl⟩
  go_wp2_with fail
  refine (within_kis _ _ _ _ _ X2.out).mono ?_
  rintro e w1 ⟨rfl, rfl⟩
  go_wp2_with fail
  go_ret
  exact ⟨rfl, (Below.refl _ _).alloc (Nat.le_refl _) _⟩

set_option maxHeartbeats 400000 in
theorem validDeed_2 (d : Deed) (w : World) (x1 : within d.kind 1 8 = true) (x2 : within d.a 0 999 = true) (x3 : within d.b 0 999 = false) :
    Calls Tryd.prog 15 #[.agg #[.int .i64 d.kind, .int .i64 d.a, .int .i64 d.b]] w (Gives (.bool false) w) := by
  have X1 := Lib.hid x1; clear x1
  have X2 := Lib.hid x2; clear x2
  have X3 := Lib.hid x3; clear x3
  obtain ⟨k, a, b⟩ := d
  dsimp only at *
  go_enter Tryd.func15, Tryd.ntmps15
  go_wp2_with fail
  refine (within_kis _ _ _ _ _ X1.out).mono ?_
  rintro e w1 ⟨rfl, rfl⟩
  go_wp2_with fail
  refine (within_kis _ _ _ _ _ X2.out).mono ?_
  rintro e w1 ⟨rfl, rfl⟩
  go_wp2_with fail
  refine (within_kis _ _ _ _ _ X3.out).mono ?_
  rintro e w1 ⟨rfl, rfl⟩
  go_wp2_with fail
  go_ret
  exact ⟨rfl, (Below.refl _ _).alloc (Nat.le_refl _) _⟩

set_option maxHeartbeats 400000 in
theorem validDeed_3 (d : Deed) (w : World) (x1 : within d.kind 1 8 = true) (x2 : within d.a 0 999 = true) (x3 : within d.b 0 999 = true) (x4 : hasTwo d.kind = true) :
    Calls Tryd.prog 15 #[.agg #[.int .i64 d.kind, .int .i64 d.a, .int .i64 d.b]] w (Gives (.bool true) w) := by
  have X1 := Lib.hid x1; clear x1
  have X2 := Lib.hid x2; clear x2
  have X3 := Lib.hid x3; clear x3
  have X4 := Lib.hid x4; clear x4
  obtain ⟨k, a, b⟩ := d
  dsimp only at *
  go_enter Tryd.func15, Tryd.ntmps15
  go_wp2_with fail
  refine (within_kis _ _ _ _ _ X1.out).mono ?_
  rintro e w1 ⟨rfl, rfl⟩
  go_wp2_with fail
  refine (within_kis _ _ _ _ _ X2.out).mono ?_
  rintro e w1 ⟨rfl, rfl⟩
  go_wp2_with fail
  refine (within_kis _ _ _ _ _ X3.out).mono ?_
  rintro e w1 ⟨rfl, rfl⟩
  go_wp2_with fail
  refine (hasTwo_is _ _ _ X4.out).mono ?_
  rintro e w1 ⟨rfl, rfl⟩
  go_wp2_with fail
  go_ret
  exact ⟨rfl, (Below.refl _ _).alloc (Nat.le_refl _) _⟩

set_option maxHeartbeats 400000 in
theorem validDeed_4 (d : Deed) (w : World) (x1 : within d.kind 1 8 = true) (x2 : within d.a 0 999 = true) (x3 : within d.b 0 999 = true) (x4 : hasTwo d.kind = false) (x5 : (d.b == 0) = true) :
    Calls Tryd.prog 15 #[.agg #[.int .i64 d.kind, .int .i64 d.a, .int .i64 d.b]] w (Gives (.bool true) w) := by
  have X1 := Lib.hid x1; clear x1
  have X2 := Lib.hid x2; clear x2
  have X3 := Lib.hid x3; clear x3
  have X4 := Lib.hid x4; clear x4
  obtain ⟨k, a, b⟩ := d
  dsimp only at *
  go_enter Tryd.func15, Tryd.ntmps15
  go_wp2_with fail
  refine (within_kis _ _ _ _ _ X1.out).mono ?_
  rintro e w1 ⟨rfl, rfl⟩
  go_wp2_with fail
  refine (within_kis _ _ _ _ _ X2.out).mono ?_
  rintro e w1 ⟨rfl, rfl⟩
  go_wp2_with fail
  refine (within_kis _ _ _ _ _ X3.out).mono ?_
  rintro e w1 ⟨rfl, rfl⟩
  go_wp2_with fail
  refine (hasTwo_is _ _ _ X4.out).mono ?_
  rintro e w1 ⟨rfl, rfl⟩
  go_wp2_with fail
  go_ret
  exact ⟨rfl, (Below.refl _ _).alloc (Nat.le_refl _) _⟩

set_option maxHeartbeats 400000 in
theorem validDeed_5 (d : Deed) (w : World) (x1 : within d.kind 1 8 = true) (x2 : within d.a 0 999 = true) (x3 : within d.b 0 999 = true) (x4 : hasTwo d.kind = false) (x5 : (d.b == 0) = false) :
    Calls Tryd.prog 15 #[.agg #[.int .i64 d.kind, .int .i64 d.a, .int .i64 d.b]] w (Gives (.bool false) w) := by
  have X1 := Lib.hid x1; clear x1
  have X2 := Lib.hid x2; clear x2
  have X3 := Lib.hid x3; clear x3
  have X4 := Lib.hid x4; clear x4
  obtain ⟨k, a, b⟩ := d
  dsimp only at *
  go_enter Tryd.func15, Tryd.ntmps15
  go_wp2_with fail
  refine (within_kis _ _ _ _ _ X1.out).mono ?_
  rintro e w1 ⟨rfl, rfl⟩
  go_wp2_with fail
  refine (within_kis _ _ _ _ _ X2.out).mono ?_
  rintro e w1 ⟨rfl, rfl⟩
  go_wp2_with fail
  refine (within_kis _ _ _ _ _ X3.out).mono ?_
  rintro e w1 ⟨rfl, rfl⟩
  go_wp2_with fail
  refine (hasTwo_is _ _ _ X4.out).mono ?_
  rintro e w1 ⟨rfl, rfl⟩
  go_wp2_with fail
  go_ret
  exact ⟨rfl, (Below.refl _ _).alloc (Nat.le_refl _) _⟩

theorem validDeed_any (d : Deed) (w : World) : Calls Tryd.prog 15 #[.agg #[.int .i64 d.kind, .int .i64 d.a, .int .i64 d.b]] w (Gives (.bool (validDeed d)) w) := by
  unfold validDeed
  cases x1 : within d.kind 1 8 with
  | false => exact validDeed_0 d w x1
  | true =>
  cases x2 : within d.a 0 999 with
  | false => exact validDeed_1 d w x1 x2
  | true =>
  cases x3 : within d.b 0 999 with
  | false => exact validDeed_2 d w x1 x2 x3
  | true =>
  cases x4 : hasTwo d.kind with
  | true => exact validDeed_3 d w x1 x2 x3 x4
  | false =>
  by_cases x5 : d.b = 0
  · rw [decide_eq_true x5]; exact validDeed_4 d w x1 x2 x3 x4 (by simpa using x5)
  · rw [decide_eq_false x5]; exact validDeed_5 d w x1 x2 x3 x4 (by simpa using x5)

set_option maxHeartbeats 400000 in
theorem specValidDeed_0 (d : Deed) (w : World) (x1 : within d.kind 1 8 = false) :
    Calls Tryd.prog 11 #[.agg #[.int .i64 d.kind, .int .i64 d.a, .int .i64 d.b]] w (Gives (.bool false) w) := by
  have X1 := Lib.hid x1; clear x1
  obtain ⟨k, a, b⟩ := d
  dsimp only at *
  go_enter Tryd.func11, Tryd.ntmps11
  go_wp2_with fail
  refine (l00In_is _ _ _ _ _ X1.out).mono ?_
  rintro e w1 ⟨rfl, rfl⟩
  go_wp2_with fail
  go_ret
  exact ⟨rfl, (Below.refl _ _).alloc (Nat.le_refl _) _⟩

set_option maxHeartbeats 400000 in
theorem specValidDeed_1 (d : Deed) (w : World) (x1 : within d.kind 1 8 = true) (x2 : within d.a 0 999 = false) :
    Calls Tryd.prog 11 #[.agg #[.int .i64 d.kind, .int .i64 d.a, .int .i64 d.b]] w (Gives (.bool false) w) := by
  have X1 := Lib.hid x1; clear x1
  have X2 := Lib.hid x2; clear x2
  obtain ⟨k, a, b⟩ := d
  dsimp only at *
  go_enter Tryd.func11, Tryd.ntmps11
  go_wp2_with fail
  refine (l00In_is _ _ _ _ _ X1.out).mono ?_
  rintro e w1 ⟨rfl, rfl⟩
  go_wp2_with fail
  refine (l00In_is _ _ _ _ _ X2.out).mono ?_
  rintro e w1 ⟨rfl, rfl⟩
  go_wp2_with fail
  go_ret
  exact ⟨rfl, (Below.refl _ _).alloc (Nat.le_refl _) _⟩

set_option maxHeartbeats 400000 in
theorem specValidDeed_2 (d : Deed) (w : World) (x1 : within d.kind 1 8 = true) (x2 : within d.a 0 999 = true) (x3 : within d.b 0 999 = false) :
    Calls Tryd.prog 11 #[.agg #[.int .i64 d.kind, .int .i64 d.a, .int .i64 d.b]] w (Gives (.bool false) w) := by
  have X1 := Lib.hid x1; clear x1
  have X2 := Lib.hid x2; clear x2
  have X3 := Lib.hid x3; clear x3
  obtain ⟨k, a, b⟩ := d
  dsimp only at *
  go_enter Tryd.func11, Tryd.ntmps11
  go_wp2_with fail
  refine (l00In_is _ _ _ _ _ X1.out).mono ?_
  rintro e w1 ⟨rfl, rfl⟩
  go_wp2_with fail
  refine (l00In_is _ _ _ _ _ X2.out).mono ?_
  rintro e w1 ⟨rfl, rfl⟩
  go_wp2_with fail
  refine (l00In_is _ _ _ _ _ X3.out).mono ?_
  rintro e w1 ⟨rfl, rfl⟩
  go_wp2_with fail
  go_ret
  exact ⟨rfl, (Below.refl _ _).alloc (Nat.le_refl _) _⟩

set_option maxHeartbeats 400000 in
theorem specValidDeed_3 (d : Deed) (w : World) (x1 : within d.kind 1 8 = true) (x2 : within d.a 0 999 = true) (x3 : within d.b 0 999 = true) (x4 : hasTwo d.kind = true) :
    Calls Tryd.prog 11 #[.agg #[.int .i64 d.kind, .int .i64 d.a, .int .i64 d.b]] w (Gives (.bool true) w) := by
  have X1 := Lib.hid x1; clear x1
  have X2 := Lib.hid x2; clear x2
  have X3 := Lib.hid x3; clear x3
  have X4 := Lib.hid x4; clear x4
  obtain ⟨k, a, b⟩ := d
  dsimp only at *
  go_enter Tryd.func11, Tryd.ntmps11
  go_wp2_with fail
  refine (l00In_is _ _ _ _ _ X1.out).mono ?_
  rintro e w1 ⟨rfl, rfl⟩
  go_wp2_with fail
  refine (l00In_is _ _ _ _ _ X2.out).mono ?_
  rintro e w1 ⟨rfl, rfl⟩
  go_wp2_with fail
  refine (l00In_is _ _ _ _ _ X3.out).mono ?_
  rintro e w1 ⟨rfl, rfl⟩
  go_wp2_with fail
  refine (l08Two_is _ _ _ X4.out).mono ?_
  rintro e w1 ⟨rfl, rfl⟩
  go_wp2_with fail
  go_ret
  exact ⟨rfl, (Below.refl _ _).alloc (Nat.le_refl _) _⟩

set_option maxHeartbeats 400000 in
theorem specValidDeed_4 (d : Deed) (w : World) (x1 : within d.kind 1 8 = true) (x2 : within d.a 0 999 = true) (x3 : within d.b 0 999 = true) (x4 : hasTwo d.kind = false) (x5 : (d.b == 0) = true) :
    Calls Tryd.prog 11 #[.agg #[.int .i64 d.kind, .int .i64 d.a, .int .i64 d.b]] w (Gives (.bool true) w) := by
  have X1 := Lib.hid x1; clear x1
  have X2 := Lib.hid x2; clear x2
  have X3 := Lib.hid x3; clear x3
  have X4 := Lib.hid x4; clear x4
  obtain ⟨k, a, b⟩ := d
  dsimp only at *
  go_enter Tryd.func11, Tryd.ntmps11
  go_wp2_with fail
  refine (l00In_is _ _ _ _ _ X1.out).mono ?_
  rintro e w1 ⟨rfl, rfl⟩
  go_wp2_with fail
  refine (l00In_is _ _ _ _ _ X2.out).mono ?_
  rintro e w1 ⟨rfl, rfl⟩
  go_wp2_with fail
  refine (l00In_is _ _ _ _ _ X3.out).mono ?_
  rintro e w1 ⟨rfl, rfl⟩
  go_wp2_with fail
  refine (l08Two_is _ _ _ X4.out).mono ?_
  rintro e w1 ⟨rfl, rfl⟩
  go_wp2_with fail
  go_ret
  exact ⟨rfl, (Below.refl _ _).alloc (Nat.le_refl _) _⟩

set_option maxHeartbeats 400000 in
theorem specValidDeed_5 (d : Deed) (w : World) (x1 : within d.kind 1 8 = true) (x2 : within d.a 0 999 = true) (x3 : within d.b 0 999 = true) (x4 : hasTwo d.kind = false) (x5 : (d.b == 0) = false) :
    Calls Tryd.prog 11 #[.agg #[.int .i64 d.kind, .int .i64 d.a, .int .i64 d.b]] w (Gives (.bool false) w) := by
  have X1 := Lib.hid x1; clear x1
  have X2 := Lib.hid x2; clear x2
  have X3 := Lib.hid x3; clear x3
  have X4 := Lib.hid x4; clear x4
  obtain ⟨k, a, b⟩ := d
  dsimp only at *
  go_enter Tryd.func11, Tryd.ntmps11
  go_wp2_with fail
  refine (l00In_is _ _ _ _ _ X1.out).mono ?_
  rintro e w1 ⟨rfl, rfl⟩
  go_wp2_with fail
  refine (l00In_is _ _ _ _ _ X2.out).mono ?_
  rintro e w1 ⟨rfl, rfl⟩
  go_wp2_with fail
  refine (l00In_is _ _ _ _ _ X3.out).mono ?_
  rintro e w1 ⟨rfl, rfl⟩
  go_wp2_with fail
  refine (l08Two_is _ _ _ X4.out).mono ?_
  rintro e w1 ⟨rfl, rfl⟩
  go_wp2_with fail
  go_ret
  exact ⟨rfl, (Below.refl _ _).alloc (Nat.le_refl _) _⟩

theorem specValidDeed_any (d : Deed) (w : World) : Calls Tryd.prog 11 #[.agg #[.int .i64 d.kind, .int .i64 d.a, .int .i64 d.b]] w (Gives (.bool (validDeed d)) w) := by
  unfold validDeed
  cases x1 : within d.kind 1 8 with
  | false => exact specValidDeed_0 d w x1
  | true =>
  cases x2 : within d.a 0 999 with
  | false => exact specValidDeed_1 d w x1 x2
  | true =>
  cases x3 : within d.b 0 999 with
  | false => exact specValidDeed_2 d w x1 x2 x3
  | true =>
  cases x4 : hasTwo d.kind with
  | true => exact specValidDeed_3 d w x1 x2 x3 x4
  | false =>
  by_cases x5 : d.b = 0
  · rw [decide_eq_true x5]; exact specValidDeed_4 d w x1 x2 x3 x4 (by simpa using x5)
  · rw [decide_eq_false x5]; exact specValidDeed_5 d w x1 x2 x3 x4 (by simpa using x5)

end Go.Proofs.YteddgooalncfgaaDoor
