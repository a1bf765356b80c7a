/-
  What a call reads of a writer.
-/
import Derived.Test.YtjochoghmpcgdaaDoorRunSIK
import Derived.Test.YtjochoghmpcgdaaDoorPackA
namespace Go.Proofs.YtjochoghmpcgdaaDoor
open Go.RowKit

structure RdO (W : Writer) (w : World) (oa op oc : Nat) : Prop where
  ok : WritOk W
  cap : W.turner.moves.length ≤ oc ∧ oc ≤ 9223372036854775807
  rows : ∀ p, p < W.turner.moves.length → ∃ rb ro rc, w.cell? ⟨oa, op + p, none⟩ = some (.slice (some ⟨rb, ro, none⟩) (W.turner.letters.toNat + 2) rc) ∧ W.turner.letters.toNat + 2 ≤ rc ∧ rc ≤ 9223372036854775807 ∧
    ∀ k, k < W.turner.letters.toNat + 2 → w.cell? ⟨rb, ro + k, none⟩ = some (.string ((W.out[p]?.getD default)[k]?.getD ByteArray.empty)) ∧ ((W.out[p]?.getD default)[k]?.getD ByteArray.empty).size ≤ 3

theorem RdO.of {W : Writer} {w w' : World} {oa op oc : Nat} (h : RdO W w oa op oc) (hb : Below w.heap.size w w') : RdO W w' oa op oc := by
  have lt : ∀ {p : Addr} {v : Value}, w.cell? p = some v → w'.cell? p = some v := fun hc => (hb.cell (World.block_lt_of_cell? w _ hc)).trans hc
  refine ⟨h.ok, h.cap, fun p hp => ?_⟩
  obtain ⟨rb, ro, rc, k1, k2, k3, k4⟩ := h.rows p hp
  exact ⟨rb, ro, rc, lt k1, k2, k3, fun k hk => ⟨lt (k4 k hk).1, (k4 k hk).2⟩⟩

theorem rdO_of {W : Writer} {w : World} {B : Nat} {v3 : Value} (h : strssE.rd w B [v3] W.out) (hv : writerOk W = true) : ∃ oa op oc, v3 = .slice (some ⟨oa, op, none⟩) W.turner.moves.length oc ∧ RdO W w oa op oc := by
  have K := writOk_of hv
  have hn := K.n
  obtain ⟨oa, op, oc, rfl, h1, h2, h4⟩ := rd_s1p rfl h (by have := K.t.n1; omega)
  rw [hn] at h1 h4 ⊢
  refine ⟨oa, op, oc, rfl, K, ⟨h1, h2⟩, fun p hp => ?_⟩
  obtain ⟨vk, c1, r1⟩ := h4 p hp
  have hrow := K.row p (by omega)
  have hmv := (K.t.row _ (mem_getD (l := W.turner.moves) (k := p) hp)).1
  have hl : (W.out[p]?.getD default).length = W.turner.letters.toNat + 2 := by have := K.t.l1; omega
  obtain ⟨rb, ro, rc, rfl, m1, m2, m4⟩ := rd_s1p rfl r1 (by omega)
  rw [hl] at m1 m4 c1
  refine ⟨rb, ro, rc, c1, m1, m2, fun k hk => ?_⟩
  obtain ⟨vs, c2, r2⟩ := m4 k hk
  have hk2 : k < (W.out[p]?.getD default).length := by omega
  have hd : (W.out[p]?.getD default)[k]?.getD ByteArray.empty = (W.out[p]?.getD default)[k]?.getD default := by rw [List.getElem?_eq_getElem hk2]; rfl
  rw [hd]
  refine ⟨?_, out_size (hrow.2 _ (mem_getD hk2))⟩
  rw [c2]
  have := r2.1
  simpa using this

/-- A writer behind a pointer. -/
structure RdWP (W : Writer) (w : World) (g : Nat) : Prop where
  t : RdP W.turner w g
  o : ∃ oa op oc, w.cell? ⟨g, 3, none⟩ = some (.slice (some ⟨oa, op, none⟩) W.turner.moves.length oc) ∧ RdO W w oa op oc

theorem RdWP.of {W : Writer} {w w' : World} {g : Nat} (h : RdWP W w g) (hb : Below w.heap.size w w') : RdWP W w' g := by
  obtain ⟨oa, op, oc, h1, h2⟩ := h.o
  exact ⟨h.t.of hb, oa, op, oc, (hb.cell (World.block_lt_of_cell? w _ h1)).trans h1, h2.of hb⟩

/-- What is written, handed back. -/
def WrIs (T : ByteArray × Int) (w : World) (e : Ending) (w' : World) : Prop :=
  ∃ v : Value, e = .returned (.tuple #[.string T.1, v, .int .i64 T.2]) ∧ Below w.heap.size w w'

theorem textOf_snoc (W : Writer) (x : List UInt8) (run : List Pl) (k : Nat) (p : Pl) (h : run[k]? = some p) : textOf W x (run.take (k + 1)) = textOf W x (run.take k) ++ outAt W x p := by
  have hk := (List.getElem?_eq_some_iff.1 h)
  obtain ⟨hk1, hk2⟩ := hk
  rw [List.take_succ_eq_append_getElem hk1, hk2]
  unfold textOf
  rw [List.foldl_append]
  rfl

theorem runGo_inv {t : Turner} (K : TurnOk t) {x : List UInt8} (hx : wordOk t.letters.toNat x) : ∀ (f : Nat) (out : List Pl) (p : Pl), InvR t.moves.length (x.length + 2) out → (p.1 < t.moves.length ∧ p.2 < x.length + 2) → InvR t.moves.length (x.length + 2) (runGo t x f out p).1
  | 0, out, p, h, hp => h
  | f + 1, out, p, h, hp => by
    unfold runGo
    by_cases hc : out.contains p = true
    · rw [if_pos hc]; exact h
    · rw [if_neg hc]
      have h2 := h.snoc hp (by simpa using hc)
      by_cases hm : (moveAt t x p).to < 0
      · rw [if_pos hm]; exact h2
      · rw [if_neg hm]
        exact runGo_inv K hx f _ _ h2 (move_next K hx hp hm).1

theorem runT_inv {t : Turner} (K : TurnOk t) {x : List UInt8} (hx : wordOk t.letters.toNat x) : InvR t.moves.length (x.length + 2) (runT t x).1 := by
  refine runGo_inv K hx _ _ _ ⟨fun p hp => (by cases hp), List.nodup_nil⟩ ⟨?_, by show 0 < _; omega⟩
  have h0 := K.s0
  have h1 := K.s1
  show t.start.toNat < t.moves.length
  omega

theorem outAt_size {W : Writer} (K : WritOk W) (x : List UInt8) (p : Pl) : (outAt W x p).size ≤ 3 := by
  unfold outAt
  by_cases h1 : p.1 < W.out.length
  · by_cases h2 : belowN W.turner.letters.toNat x p.2 < (W.out[p.1]?.getD default).length
    · rw [show (W.out[p.1]?.getD default)[belowN W.turner.letters.toNat x p.2]?.getD ByteArray.empty = (W.out[p.1]?.getD default)[belowN W.turner.letters.toNat x p.2]?.getD default from by rw [List.getElem?_eq_getElem h2]; rfl]
      exact out_size ((K.row _ h1).2 _ (mem_getD h2))
    · rw [List.getElem?_eq_none (by omega)]; exact Nat.zero_le _
  · rw [List.getElem?_eq_none (l := W.out) (by omega)]
    exact Nat.zero_le _

theorem textOf_size {W : Writer} (K : WritOk W) (x : List UInt8) (run : List Pl) : ∀ k, k ≤ run.length → (textOf W x (run.take k)).size ≤ 3 * k
  | 0, _ => Nat.le_refl _
  | k + 1, h => by
    have hk : k < run.length := by omega
    rw [textOf_snoc W x run k _ (List.getElem?_eq_getElem hk), ByteArray.size_append]
    have := textOf_size K x run k (by omega)
    have := outAt_size K x run[k]
    omega

end Go.Proofs.YtjochoghmpcgdaaDoor
