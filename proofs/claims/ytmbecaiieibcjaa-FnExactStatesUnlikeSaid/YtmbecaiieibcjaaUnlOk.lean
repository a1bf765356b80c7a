/-
  A right reader, for the searches; the words' lengths.
-/
import Derived.Test.YtmbecaiieibcjaaUnlMet
import Derived.Test.YtmbecaiieibcjaaValidRead
import Derived.Test.YtmbecaiieibcjaaStarK
namespace Go.Proofs.Ytmbecaiieibcjaa
open Go.RowKit

structure ROk (r : Reader) : Prop where
  l1 : 1 ≤ r.letters
  l3 : r.letters ≤ 3
  n1 : 1 ≤ r.accept.length
  n300 : r.accept.length ≤ 300
  nn : r.next.length = r.accept.length
  row : ∀ x, x ∈ r.next → (x.length : Int) = r.letters ∧ ∀ y, y ∈ x → 0 ≤ y ∧ y < r.accept.length

theorem rok_of {r : Reader} (h : validRead r = true) : ROk r := by
  unfold validRead at h
  rw [Bool.and_eq_true, Bool.and_eq_true, Bool.and_eq_true, Bool.and_eq_true, decide_eq_true_eq] at h
  have h1 := within_true.1 h.1
  have h2 := within_true.1 h.2.1
  refine ⟨h1.1, h1.2, by omega, by omega, by omega, fun x hx => ?_⟩
  have h4 := List.all_eq_true.1 h.2.2.2.2 x hx
  unfold areStates at h4
  rw [Bool.and_eq_true, decide_eq_true_eq] at h4
  refine ⟨h4.1, fun y hy => ?_⟩
  have h5 := within_true.1 (List.all_eq_true.1 h4.2 y hy)
  omega

theorem ROk.rowlen {r : Reader} (K : ROk r) {a : Nat} (ha : a < r.accept.length) : (r.next[a]?.getD default).length = r.letters.toNat := by
  have h1 := (K.row _ (show r.next[a]?.getD default ∈ r.next from by rw [List.getElem?_eq_getElem (by rw [K.nn]; exact ha)]; exact List.getElem_mem _)).1
  have h2 := K.l1
  omega

theorem ROk.next {r : Reader} (K : ROk r) {a l : Nat} (ha : a < r.accept.length) (hl : l < r.letters.toNat) : (r.next[a]?.getD default)[l]?.getD 0 = (nxtU r a l : Int) ∧ nxtU r a l < r.accept.length := by
  have hm : r.next[a]?.getD default ∈ r.next := by rw [List.getElem?_eq_getElem (by rw [K.nn]; exact ha)]; exact List.getElem_mem _
  have h1 := K.rowlen ha
  have hl2 : l < (r.next[a]?.getD default).length := by omega
  have h5 := (K.row _ hm).2 _ (List.getElem_mem hl2)
  have e : nxtU r a l = ((r.next[a]?.getD default)[l]?.getD 0).toNat := rfl
  rw [List.getElem?_eq_getElem hl2, Option.getD_some] at e ⊢
  omega

def WBd (k : Nat) (L : List PW) : Prop := ∀ x, x ∈ L → x.2.length ≤ k
theorem WBd.ext1 {d : Bool} {r : Reader} {e : PW} {L : List PW} {k l : Nat} (h : WBd k L) (he : e.2.length < k) : WBd k (ext1 d r e L l) := by
  unfold Go.Proofs.Ytmbecaiieibcjaa.ext1
  split
  · intro x hx
    rcases List.mem_append.1 hx with hx | hx
    · exact h x hx
    · obtain rfl : x = _ := by simpa using hx
      rw [List.length_append]
      show e.2.length + 1 ≤ k
      omega
  · exact h
theorem WBd.mono {L : List PW} {k m : Nat} (h : WBd k L) (hk : k ≤ m) : WBd m L := fun x hx => Nat.le_trans (h x hx) hk

theorem WBd.extU {d : Bool} {r : Reader} {e : PW} {L : List PW} {m : Nat} (h : WBd m L) (he : e.2.length < m) : ∀ k, WBd m (extU d r e L k)
  | 0 => h
  | k + 1 => by rw [extU_succ]; exact (WBd.extU h he k).ext1 he

def toS (x : PW) : Stp := ⟨x.1.1, x.1.2, ⟨x.2.toArray⟩⟩

theorem any_met (L : List PW) (a b : Nat) : (L.map toS).any (metS a b) = L.any fun x => x.1 == (a, b) := by
  rw [List.any_map]
  congr 1
  funext x
  show (((x.1.1 : Int) == (a : Int)) && ((x.1.2 : Int) == (b : Int))) = (x.1 == (a, b))
  rw [Bool.eq_iff_iff, Bool.and_eq_true, beq_iff_eq, beq_iff_eq, beq_iff_eq]
  constructor
  · rintro ⟨h1, h2⟩
    exact Prod.ext (by omega) (by omega)
  · intro h
    rw [h]
    exact ⟨rfl, rfl⟩

theorem toS_snoc (p : Nat × Nat) (w : List UInt8) (b : UInt8) : toS (p, w ++ [b]) = ⟨p.1, p.2, ⟨w.toArray⟩ ++ ⟨#[b]⟩⟩ := by
  unfold toS
  congr 1

def unlV : Option (List UInt8) → Value
  | none => .tuple #[.string ⟨#[]⟩, .bool false]
  | some l => .tuple #[.string ⟨l.toArray⟩, .bool true]

end Go.Proofs.Ytmbecaiieibcjaa
