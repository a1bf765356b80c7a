/-
  Contracts of the laws' own szWriter and toWriter (written by a program of this claim's own, gen_writ.py).
-/
import Derived.Test.YtodoghidckelcaaGreatDoorPackB
import Derived.Test.YtodoghidckelcaaGreatDoorPackA
namespace Go.Proofs.YtodoghidckelcaaGreatDoor
open Go.RowKit

def okWriter (r : Writer) : Prop := okTurner r.turner ∧ r.out.length ≤ 1048576 ∧ ∀ x, x ∈ r.out → x.length ≤ 1048576
def totWriter (r : Writer) : Nat := totTurner r.turner + (r.out.length + sumF strSz r.out)

theorem rd_WriterF {w : World} {B : Nat} {cs : List Value} {r : Writer} (h : writE.rd w B cs r) :
    ∃ v2 v3, cs = [.int .i64 r.turner.letters, .int .i64 r.turner.start, v2, v3] ∧ (-9223372036854775808 ≤ r.turner.letters ∧ r.turner.letters ≤ 9223372036854775807) ∧ (-9223372036854775808 ≤ r.turner.start ∧ r.turner.start ≤ 9223372036854775807) ∧ movessE.rd w B [v2] r.turner.moves ∧ strssE.rd w B [v3] r.out := by
  obtain ⟨v2, v3, rfl, h2, h3⟩ := rd_Writer h
  obtain ⟨v2', he, b0, b1, k2⟩ := rd_Turner h2
  obtain rfl : v2 = v2' := by simpa using he
  exact ⟨v2, v3, rfl, b0, b1, k2, h3⟩

theorem sumF_mem {α : Type} (f : α → Nat) (l : List α) (x : α) (h : x ∈ l) : f x ≤ sumF f l := by
  induction l with
  | nil => cases h
  | cons a l ih =>
    show f x ≤ f a + sumF f l
    rcases List.mem_cons.1 h with e | e
    · subst e; omega
    · have := ih e; omega

theorem ok_of_totWriter {r : Writer} (h : ¬ 1048576 < totWriter r) : okWriter r := by
  unfold totWriter at h
  refine ⟨ok_of_totTurner (by omega), by omega, fun x hx => ?_⟩
  have := sumF_mem strSz r.out x hx
  have h2 : x.length ≤ strSz x := by unfold strSz; omega
  omega

end Go.Proofs.YtodoghidckelcaaGreatDoor
