/-
  FnOrders: what the answers keep, index by index. No program is named here.
-/
import Derived.Test.YtaedgicglddihaaOrdLaw
namespace Go.Proofs.Ytaedgicglddihaa

def prT (L : List Nat) (k : Nat) : Nat := (L.take k).foldl (· * ·) 1
def suT (L : List Nat) (k : Nat) : Nat := (L.take k).foldl (· + ·) 0
theorem prT_succ {L : List Nat} {k : Nat} (h : k < L.length) : prT L (k + 1) = prT L k * L[k]?.getD 0 := by
  unfold prT
  rw [List.take_succ_eq_append_getElem h, List.foldl_append]
  simp [List.getElem?_eq_getElem h]
theorem suT_succ {L : List Nat} {k : Nat} (h : k < L.length) : suT L (k + 1) = suT L k + L[k]?.getD 0 := by
  unfold suT
  rw [List.take_succ_eq_append_getElem h, List.foldl_append]
  simp [List.getElem?_eq_getElem h]

def ordGood2 (s : Nat) : Bool :=
  decide ((ordLit s).2.length ≤ 7) && (List.range 8).all (fun k => decide (prT (ordLit s).2 k ≤ 1021020 ∧ suT (ordLit s).2 k ≤ 60)) &&
    decide (prT (ordLit s).2 (ordLit s).2.length = (ordLit s).1 ∧ suT (ordLit s).2 (ordLit s).2.length ≤ s) &&
    (List.range (ordLit s).2.length).all (fun i => decide ((ordLit s).2[i]?.getD 0 ≤ 60) && (List.range i).all fun k => decide ((ordLit s).2[k]?.getD 0 < (ordLit s).2[i]?.getD 0 ∧ Nat.gcd ((ordLit s).2[i]?.getD 0) ((ordLit s).2[k]?.getD 0) = 1)) &&
    decide ((ordLit s).1 ≤ (ordLit (s + 1)).1) && decide (1 ≤ (ordLit s).1 ∧ (ordLit s).1 ≤ 1021020)

set_option maxRecDepth 1000000 in
theorem goods2_60 : (List.range 60).all ordGood2 = true := by kernel_rfl

structure OrdFacts (s due due2 : Nat) (L : List Nat) : Prop where
  len : L.length ≤ 7
  part : ∀ k, k ≤ L.length → prT L k ≤ 1021020 ∧ suT L k ≤ 60
  all : prT L L.length = due ∧ suT L L.length ≤ s
  small : ∀ i, i < L.length → L[i]?.getD 0 ≤ 60
  pair : ∀ i k, i < L.length → k < i → L[k]?.getD 0 < L[i]?.getD 0 ∧ Nat.gcd (L[i]?.getD 0) (L[k]?.getD 0) = 1
  more : due ≤ due2
  due : 1 ≤ due ∧ due ≤ 1021020

theorem ord_facts (s : Nat) (hs : s < 60) : OrdFacts s (ordLit s).1 (ordLit (s + 1)).1 (ordLit s).2 := by
  have h := List.all_eq_true.1 goods2_60 s (List.mem_range.2 hs)
  unfold ordGood2 at h
  simp only [Bool.and_eq_true, decide_eq_true_eq, List.all_eq_true, List.mem_range] at h
  obtain ⟨⟨⟨⟨⟨h1, h2⟩, h3⟩, h4⟩, h5⟩, h6⟩ := h
  exact ⟨h1, fun k hk => h2 k (by omega), h3, fun i hi => (h4 i hi).1, fun i k hi hk => (h4 i hi).2 k hk, h5, h6⟩

/-- The step of the least common multiple. -/
theorem lcm_step (c n : Nat) : c / Nat.gcd c n * n = Nat.lcm n c := by
  rw [Nat.lcm_comm, Nat.lcm, Nat.div_mul_right_comm (Nat.gcd_dvd_left c n)]

end Go.Proofs.Ytaedgicglddihaa
