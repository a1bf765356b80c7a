/-
  The library's Clone at the program's types (written by a program of this claim's own, gen_clone.py).
-/
import Derived.Test.YtcifdkliiljmkaaGreatDoorPackA
namespace Go.Proofs.YtcifdkliiljmkaaGreatDoor
open Go.RowKit

theorem src_ints {w : World} {B : Nat} {v : Value} {l : List Int} (h : (intsE).rd w B [v] l) : ∃ css fys, OwAll intE w l css fys ∧ fys.flatten = [] ∧ SrcS w intE.size v l.length css.flatten := by
  refine src_of_rd (fun x => [.int .i64 x]) ?_ (fun x u hu => by simp at hu; subst hu; rfl) h
  intro x cs h
  exact ⟨h.1, ⟨⟨h.1 ▸ rfl, h.2⟩, rfl⟩⟩

theorem src_bools {w : World} {B : Nat} {v : Value} {l : List Bool} (h : (boolsE).rd w B [v] l) : ∃ css fys, OwAll boolE w l css fys ∧ fys.flatten = [] ∧ SrcS w boolE.size v l.length css.flatten := by
  refine src_of_rd (fun x => [.bool x]) ?_ (fun x u hu => by simp at hu; subst hu; rfl) h
  intro x cs h
  exact ⟨h, ⟨h ▸ rfl, rfl⟩⟩

theorem src_strs {w : World} {B : Nat} {v : Value} {l : List ByteArray} (h : (strsE).rd w B [v] l) : ∃ css fys, OwAll strE w l css fys ∧ fys.flatten = [] ∧ SrcS w strE.size v l.length css.flatten := by
  refine src_of_rd (fun x => [.string x]) ?_ (fun x u hu => by simp at hu; subst hu; rfl) h
  intro x cs h
  exact ⟨h.1, ⟨⟨h.1 ▸ rfl, h.2⟩, rfl⟩⟩

end Go.Proofs.YtcifdkliiljmkaaGreatDoor
