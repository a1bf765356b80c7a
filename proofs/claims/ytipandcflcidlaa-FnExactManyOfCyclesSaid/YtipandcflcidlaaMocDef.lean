/-
  ManyOfCycles: what both answer (written by a program of this claim's own, gen_moc.py).
-/
import Derived.Test.YtipandcflcidlaaFuncsB
import Derived.Test.YtipandcflcidlaaSizes
import Derived.Test.YtipandcflcidlaaStates
import Derived.Test.YtipandcflcidlaaClone
import Derived.Test.YtipandcflcidlaaStep
import Derived.Test.YtipandcflcidlaaManyOut
import Derived.Deep.DeepCutAuto
namespace Go.Proofs.Ytipandcflcidlaa
open Go.RowKit

def cycRow (n m : Nat) : List (List (List Int)) := (List.range m).map fun k => [[((n + (k + 1) % m : Nat) : Int)]]
def cycNext : Nat → List (List Bool) → List (List (List Int))
  | _, [] => []
  | n, c :: l => cycRow n c.length ++ cycNext (n + c.length) l
def cycStarts : Nat → List (List Bool) → List Int
  | _, [] => []
  | n, c :: l => (n : Int) :: cycStarts (n + c.length) l

theorem sumLen_cons {α : Type} (c : List α) (l : List (List α)) : sumLen (c :: l) = c.length + sumLen l := rfl

theorem cycNext_snoc (n : Nat) (l : List (List Bool)) (c : List Bool) : cycNext n (l ++ [c]) = cycNext n l ++ cycRow (n + sumLen l) c.length := by
  induction l generalizing n with
  | nil => simp [cycNext, sumLen]
  | cons a l ih => rw [List.cons_append, cycNext, cycNext, ih, List.append_assoc, sumLen_cons, Nat.add_assoc]
theorem cycStarts_snoc (n : Nat) (l : List (List Bool)) (c : List Bool) : cycStarts n (l ++ [c]) = cycStarts n l ++ [((n + sumLen l : Nat) : Int)] := by
  induction l generalizing n with
  | nil => simp [cycStarts, sumLen]
  | cons a l ih => rw [List.cons_append, cycStarts, cycStarts, ih, List.cons_append, sumLen_cons, Nat.add_assoc]
theorem cycNext_len (n : Nat) (l : List (List Bool)) : (cycNext n l).length = sumLen l := by
  induction l generalizing n with
  | nil => rfl
  | cons a l ih => rw [cycNext, List.length_append, ih, sumLen_cons]; simp [cycRow]
theorem cycStarts_len (n : Nat) (l : List (List Bool)) : (cycStarts n l).length = l.length := by
  induction l generalizing n with
  | nil => rfl
  | cons a l ih => rw [cycStarts, List.length_cons, ih, List.length_cons]
theorem flat_len (l : List (List Bool)) : l.flatten.length = sumLen l := by
  rw [List.length_flatten]; rfl
theorem sumLen_bound (l : List (List Bool)) (c : Nat) (h : ∀ x, x ∈ l → x.length ≤ c) : sumLen l ≤ l.length * c := sum_map_le List.length c l h

def cycIn (c : List Bool) : Bool := within c.length 1 12
def manyOfCycles (l : List (List Bool)) : Many × Int :=
  if within l.length 1 4 && l.all cycIn then (if 10 < sumLen l then (default, 3) else (⟨1, cycStarts 0 l, l.flatten, cycNext 0 l⟩, 0)) else (default, 2)

theorem cycRow_le (n m : Nat) : cntL (listM intsM) (cycRow n m) ≤ m * 1 := by
  have := sum_map_le (listM intsM).cnt 1 (cycRow n m) (fun x hx => by
    obtain ⟨k, _, rfl⟩ := List.mem_map.1 hx
    exact Nat.le_refl _)
  have h2 : (cycRow n m).length = m := by simp [cycRow]
  rw [h2] at this
  exact this
theorem cycNext_le (n : Nat) (l : List (List Bool)) : cntL (listM intsM) (cycNext n l) ≤ sumLen l := by
  induction l generalizing n with
  | nil => exact Nat.le_refl _
  | cons a l ih =>
    rw [cycNext, cntL_append, sumLen_cons]
    have := cycRow_le n a.length; have := ih (n + a.length)
    omega

theorem cnt_manyOfCycles (l : List (List Bool)) : manyM.cnt (manyOfCycles l).1 ≤ 4611686018427387000 := by
  unfold manyOfCycles
  split
  · rename_i h
    rw [Bool.and_eq_true] at h
    have h1 := within_true.1 h.1
    split
    · decide
    · rename_i h2
      have h3 := cycNext_le 0 l
      show (cycStarts 0 l).length + l.flatten.length + cntL (listM intsM) (cycNext 0 l) ≤ _
      rw [cycStarts_len, flat_len]
      omega
  · decide

theorem cf_moc1 : ∀ args w1, (callFunc 44 args).run Try.prog w1 = .ok (.enter 44 args) w1 := fun _ _ => by kernel_rfl

theorem moc1_any (v : Value) (l : List Bool) (B : Nat) (w : World) (h : boolsE.rd w B [v] l) : Calls Try.prog 44 #[v] w (Gives (.bool (!cycIn l)) w) := by
  unfold cycIn
  go_enter Try.func44, Try.ntmps44
  go_wp2_with fail
  refine (size_bools _ l B _ h).mono ?_
  rintro e w1 ⟨rfl, b⟩
  go_wp2_with fail
  refine (within_any _ _ _ _).mono ?_
  rintro e w2 ⟨rfl, b2⟩
  go_wp2
  go_ret
  exact ⟨rfl, b.trans (b2.mono b.size)⟩

/-- What is known where the numbers are right. -/
structure CycOk (l : List (List Bool)) : Prop where
  n1 : 1 ≤ l.length
  n4 : l.length ≤ 4
  row : ∀ x, x ∈ l → 1 ≤ x.length ∧ x.length ≤ 12

theorem cycOk {l : List (List Bool)} (h : (within l.length 1 4 && l.all cycIn) = true) : CycOk l := by
  rw [Bool.and_eq_true, List.all_eq_true] at h
  have h1 := within_true.1 h.1
  exact ⟨by omega, by omega, fun x hx => by have := within_true.1 (h.2 x hx); omega⟩

theorem CycOk.sum {l : List (List Bool)} (K : CycOk l) (k : Nat) : sumLen (l.take k) ≤ 48 := by
  have h1 := sumLen_bound (l.take k) 12 (fun x hx => (K.row x (List.mem_of_mem_take hx)).2)
  have h2 := List.length_take_le k l
  have h3 := List.length_take_le' k l
  have := K.n4
  omega

theorem oneC {α : Type} {E : Enc α} {ty : TypeId} {w : World} {v : Value} {l : List α} {B : Nat} (h : (sliceE E ty).rd w B [v] l) : ∃ a c, v = .slice a l.length c := by
  obtain ⟨a, cap, hv, _⟩ := h
  exact ⟨a, cap, by simpa using hv⟩

end Go.Proofs.Ytipandcflcidlaa
