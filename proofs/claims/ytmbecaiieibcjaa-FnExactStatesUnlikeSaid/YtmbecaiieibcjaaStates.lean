/-
  Contracts of the program's size, isAlphabet and areStates.
-/
import Derived.Test.YtmbecaiieibcjaaFuncs
namespace Go.Proofs.Ytmbecaiieibcjaa
open Go.RowKit

theorem size_ints (v : Value) (l : List Int) (B : Nat) (w : World) (h : intsE.rd w B [v] l) : Calls Try.prog 63 #[v] w (Gives (.int .i64 l.length) w) := by
  have hl := len_le h
  obtain ⟨a, cap, rfl, -, -, -, -⟩ := rd_ints h
  clear h
  go_enter Try.func63, Try.ntmps63
  go_wp2
  go_ret
  exact ⟨rfl, Below.refl _ _⟩

theorem size_intss (v : Value) (l : List (List Int)) (B : Nat) (w : World) (h : intssE.rd w B [v] l) : Calls Try.prog 32 #[v] w (Gives (.int .i64 l.length) w) := by
  have hl := len_le h
  obtain ⟨a, cap, rfl, -, -, -, -⟩ := rd_slice1 rfl h
  clear h
  go_enter Try.func32, Try.ntmps32
  go_wp2
  go_ret
  exact ⟨rfl, Below.refl _ _⟩

theorem isAlphabet_any (n : Int) (w : World) : Calls Try.prog 51 #[.int .i64 n] w (Gives (.bool (within n 1 3)) w) := by
  go_enter Try.func51, Try.ntmps51
  go_wp2_with fail
  refine (within_any _ _ _ _).mono ?_
  rintro e w1 ⟨rfl, hbl⟩
  go_wp2
  go_ret
  exact ⟨rfl, hbl⟩

theorem within_is (r : Bool) (n lo hi : Int) (w : World) (h : within n lo hi = r) : Calls Try.prog 34 #[.int .i64 n, .int .i64 lo, .int .i64 hi] w (Gives (.bool r) w) := h ▸ within_any n lo hi w

theorem isAlphabet_is (r : Bool) (n : Int) (w : World) (h : within n 1 3 = r) : Calls Try.prog 51 #[.int .i64 n] w (Gives (.bool r) w) := h ▸ isAlphabet_any n w

theorem cf_areStates1 : ∀ args w1, (callFunc 65 args).run Try.prog w1 = .ok (.enter 65 args) w1 := fun _ _ => by kernel_rfl

set_option maxHeartbeats 400000 in
theorem areStates1_any (z s : Int) (b o : Nat) (w : World) (hc : w.cell? ⟨b, o, none⟩ = some (.int .i64 s)) (h0 : 0 ≤ s) (h1 : s ≤ 9223372036854775807) :
    Calls Try.prog 65 #[.int .i64 z, .pointer (some ⟨b, o, none⟩)] w (Gives (.bool (!within z 0 (s - 1))) w) := by
  go_enter Try.func65, Try.ntmps65
  go_wp2_with fail
  refine (within_any _ _ _ _).mono ?_
  rintro e w1 ⟨rfl, hbl⟩
  go_wp2
  go_ret
  exact ⟨rfl, hbl⟩

/-- So many numbers, each of them a state. -/
def areStates (l : List Int) (count states : Int) : Bool := decide ((l.length : Int) = count) && l.all fun s => within s 0 (states - 1)

theorem any_not {α : Type} (p : α → Bool) (l : List α) : (!l.any fun x => !p x) = l.all p := by
  induction l with
  | nil => rfl
  | cons a l ih => rw [List.any_cons, List.all_cons, Bool.not_or, Bool.not_not, ih]

set_option maxHeartbeats 400000 in
theorem areStates_any (v : Value) (l : List Int) (c s : Int) (B : Nat) (w : World) (hB0 : B ≤ w.heap.size) (h : intsE.rd w B [v] l) (h0 : 0 ≤ s) (h1 : s ≤ 9223372036854775807) :
    Calls Try.prog 54 #[v, .int .i64 c, .int .i64 s] w (Gives (.bool (areStates l c s)) w) := by
  obtain ⟨a, n, cap, rfl⟩ := rd_slice h
  by_cases hc : (l.length : Int) = c
  · have hv : areStates l c s = l.all fun z => within z 0 (s - 1) := by simp [areStates, hc]
    have Hv := Lib.hid hv; clear hv
    have ht : ((l.length : Int) == c) = true := by simpa using hc
    have Hc := Lib.hid hc; clear hc
    have H := Lib.hid h; clear h
    go_enter Try.func54, Try.ntmps54
    go_wp2_with fail
    generalize hW : w.alloc _ = w1
    obtain ⟨A0, hB⟩ := blk1 hW
    clear hW
    have H1 := Lib.hid (intsE.rd_of (hB.mono hB0) H.out); clear H
    refine (size_ints _ _ _ _ H1.out).mono ?_
    rintro e w2 ⟨rfl, hbl⟩
    have H2 := Lib.hid (intsE.rd_of (hbl.mono (by have := hB.size; omega)) H1.out); clear H1
    have A1 := Lib.hid (A0.of hbl A0.lt)
    go_wp2_with fail
    have B2 := hB.trans (hbl.mono hB.size)
    refine (containsFunc_ints _ l B _ _ _ _ (fun z => !within z 0 (s - 1)) (Nat.le_trans hB0 B2.size) H2.out cf_areStates1 (fun z w3 h3 => ?_)).mono ?_
    · exact areStates1_any z s _ _ w3 ((A1.out.of h3 A1.out.lt).cell 0 rfl) h0 h1
    · rintro e w3 ⟨rfl, h3⟩
      have B3 := B2.trans (h3.mono B2.size)
      clear B2 h3 hbl hB A0
      have hx := Lib.hid (any_not (fun z => within z 0 (s - 1)) l)
      generalize (l.any fun z => !within z 0 (s - 1)) = bv at *
      go_wp2
      go_ret
      exact ⟨by rw [Hv.out, ← hx.out]; rfl, B3⟩
  · have hv : areStates l c s = false := by simp [areStates, hc]
    have Hv := Lib.hid hv; clear hv
    have ht : ((l.length : Int) == c) = false := by simpa using hc
    have Hc := Lib.hid hc; clear hc
    have H := Lib.hid h; clear h
    go_enter Try.func54, Try.ntmps54
    go_wp2_with fail
    generalize hW : w.alloc _ = w1
    obtain ⟨A0, hB⟩ := blk1 hW
    clear hW
    have H1 := Lib.hid (intsE.rd_of (hB.mono hB0) H.out); clear H
    refine (size_ints _ _ _ _ H1.out).mono ?_
    rintro e w2 ⟨rfl, hbl⟩
    have B2 := hB.trans (hbl.mono hB.size)
    clear hbl hB A0
    go_wp2
    go_ret
    exact ⟨by rw [Hv.out]; rfl, B2⟩

end Go.Proofs.Ytmbecaiieibcjaa
