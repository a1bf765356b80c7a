/-
  Plain lemmas: an element of a slice of one's own is written anew.
-/
import Derived.Test.YtcifdkliiljmkaaGreatDoorPackB
namespace Go.Proofs.YtcifdkliiljmkaaGreatDoor
open Go.RowKit

theorem OwAll.set {α : Type} {E : Enc α} {w : World} {l : List α} {xss : List (List Value)} {fps : List (List Nat)} (h : OwAll E w l xss fps) {u : List Value} {y : α} {g : List Nat} (hy : E.ow w u y g) (i : Nat) :
    OwAll E w (l.set i y) (xss.set i u) (fps.set i g) := by
  induction h generalizing i with
  | nil => exact .nil
  | cons h1 h2 ih =>
    cases i with
    | zero => exact .cons hy h2
    | succ i => exact .cons h1 (ih i)

theorem OwAll.ones {α : Type} {E : Enc α} {w : World} {l : List α} {xss : List (List Value)} {fps : List (List Nat)} (h : OwAll E w l xss fps) (hE : E.size = 1) : ∀ x, x ∈ xss → x.length = 1 := by
  induction h with
  | nil => intro x hx; cases hx
  | cons h1 h2 ih =>
    intro x hx
    rcases List.mem_cons.1 hx with rfl | hx
    · rw [← hE]; exact E.rd_len (E.rd_ow h1)
    · exact ih x hx

theorem flatten_set1 {v : Value} : ∀ (xss : List (List Value)) (i : Nat), (∀ x, x ∈ xss → x.length = 1) → (xss.set i [v]).flatten = xss.flatten.set i v
  | [], i, _ => by simp
  | x :: xss, i, h => by
    obtain ⟨a, rfl⟩ := List.length_eq_one_iff.1 (h x (by simp))
    cases i with
    | zero => simp
    | succ i =>
      have := flatten_set1 (v := v) xss i (fun y hy => h y (by simp [hy]))
      simp [this]

theorem nodup_flatten_set {g : List Nat} : ∀ (fps : List (List Nat)) (i : Nat) (p : List Nat), (p ++ fps.flatten ++ g).Nodup → (p ++ (fps.set i g).flatten).Nodup
  | [], i, p, h => by
    rw [List.set_nil]
    exact (List.nodup_append.1 h).1
  | f :: fps, i, p, h => by
    cases i with
    | zero =>
      have h2 : (p ++ (fps.flatten ++ g)).Nodup := by
        refine List.Nodup.sublist ?_ h
        rw [List.append_assoc, List.flatten_cons, List.append_assoc]
        exact List.Sublist.append (List.Sublist.refl p) (List.sublist_append_right f _)
      rw [List.set_cons_zero, List.flatten_cons]
      exact ((List.perm_append_comm (l₁ := fps.flatten) (l₂ := g)).append_left p).nodup_iff.1 h2
    | succ i =>
      have := nodup_flatten_set (g := g) fps i (p ++ f) (by simpa [List.append_assoc] using h)
      rw [List.set_cons_succ, List.flatten_cons, ← List.append_assoc]
      exact this

theorem mem_flatten_set {g : List Nat} {b : Nat} : ∀ (fps : List (List Nat)) (i : Nat), b ∈ (fps.set i g).flatten → b ∈ fps.flatten ∨ b ∈ g
  | [], i, h => by simp at h
  | f :: fps, i, h => by
    cases i with
    | zero =>
      rw [List.set_cons_zero, List.flatten_cons] at h
      rcases List.mem_append.1 h with h | h
      · exact .inr h
      · exact .inl (by rw [List.flatten_cons]; exact List.mem_append_right _ h)
    | succ i =>
      rw [List.set_cons_succ, List.flatten_cons] at h
      rcases List.mem_append.1 h with h | h
      · exact .inl (by rw [List.flatten_cons]; exact List.mem_append_left _ h)
      · rcases mem_flatten_set fps i h with h | h
        · exact .inl (by rw [List.flatten_cons]; exact List.mem_append_right _ h)
        · exact .inr h

/-- Two parts held as one. -/
def oTwo (P Q : Ob) : Ob := ⟨fun w fp => ∃ f g, fp = f ++ g ∧ P.holds w f ∧ Q.holds w g, fun hf ⟨f, g, e, h1, h2⟩ => ⟨f, g, e, P.frame (fun b hb => hf b (by rw [e]; exact List.mem_append_left _ hb)) h1, Q.frame (fun b hb => hf b (by rw [e]; exact List.mem_append_right _ hb)) h2⟩⟩

theorem Star.setE {w0 w : World} {ps : List Ob} {α : Type} {E : Enc α} {ty : TypeId} {l : List α} {y : α} {u : Value} {g n c : Nat} (hE : E.size = 1) (S : Star w0 w (oE (sliceE E ty) [.slice (some ⟨g, 0, none⟩) n c] l :: oE E [u] y :: ps)) (i : Nat) (hi : i < l.length) :
    Star w0 (w.setCell ⟨g, i, none⟩ u) (oE (sliceE E ty) [.slice (some ⟨g, 0, none⟩) n c] (l.set i y) :: ps) := by
  have S2 := S.join (R := oTwo _ _) (fun f g h1 h2 => ⟨f, g, rfl, h1, h2⟩)
  refine S2.upd ?_
  rintro fp ⟨f, gf, rfl, ⟨v, xss, fps, he, h1, h2, rfl⟩, hy⟩ nd hlt
  simp only [List.cons.injEq, and_true] at he
  subst he
  have ew : w.heap[g]? = (w.heap[g]?) := rfl
  obtain ⟨hx, h3⟩ := h2
  rcases h3 with ⟨h3, -⟩ | ⟨g', cap, cur, e3, hg, hh, hc, hm, hs, ht⟩
  · cases h3
  simp only [Value.slice.injEq, Option.some.injEq, Addr.mk.injEq, and_true] at e3
  obtain ⟨rfl, rfl, rfl⟩ := e3
  have ob : (Value.slice (some ⟨g, 0, none⟩) l.length c).ownBlock.toList = [g] := rfl
  rw [ob] at nd hlt ⊢
  have hgl : g < w.heap.size := (Array.getElem?_eq_some_iff.1 hh).1
  have hB : Blk w g cur.toList ty := by unfold Blk; rw [hh]
  have hB' := hB.set i u
  have hone := h1.ones hE
  have hgn : g ∉ fps.flatten ++ gf := by
    rw [List.append_assoc, List.singleton_append, List.nodup_cons] at nd
    exact nd.1
  have fr : ∀ b, b ∈ fps.flatten ++ gf → (w.setCell ⟨g, i, none⟩ u).heap[b]? = w.heap[b]? := fun b hb => (((But.refl [g] w).setCell (a := ⟨g, i, none⟩) (by simp) u).block b (hlt b (by rw [List.append_assoc]; exact List.mem_append_right _ hb)) (fun e => hgn (by rw [List.mem_singleton] at e; exact e ▸ hb)))
  have o1 := (h1.frame (fun b hb => fr b (List.mem_append_left _ hb))).set (E.ow_frame (fun b hb => fr b (List.mem_append_right _ hb)) hy) i
  refine ⟨[g] ++ (fps.set i gf).flatten, ⟨_, xss.set i [u], fps.set i gf, rfl, o1, ⟨?_, .inr ⟨g, c, (cur.toList.set i u).toArray, by rw [List.length_set], Nat.zero_le _, hB', by rw [List.length_set]; exact hc, hm, by simpa using hs, ?_⟩⟩, rfl⟩, ?_, ?_, ?_, ?_⟩
  · rw [flatten_set1 _ _ hone, List.length_set, List.length_set]; exact hx
  · rw [flatten_set1 _ _ hone, List.length_set, ← ht, List.take_set]
  · exact nodup_flatten_set fps i [g] nd
  · intro b hb
    left
    rcases List.mem_append.1 hb with h | h
    · exact List.mem_append_left _ (List.mem_append_left _ h)
    · rcases mem_flatten_set fps i h with h | h
      · exact List.mem_append_left _ (List.mem_append_right _ h)
      · exact List.mem_append_right _ h
  · intro b hb
    rw [show (w.setCell ⟨g, i, none⟩ u).heap.size = w.heap.size from by simp]
    rcases List.mem_append.1 hb with h | h
    · exact hlt b (List.mem_append_left _ (List.mem_append_left _ h))
    · rcases mem_flatten_set fps i h with h | h
      · exact hlt b (List.mem_append_left _ (List.mem_append_right _ h))
      · exact hlt b (List.mem_append_right _ h)
  · exact (But.refl _ _).setCell (by simp) _

/-- The block of a slice of one's own. -/
theorem Star.at0 {w0 w : World} {ps : List Ob} (S : Star w0 w ps) (n : Nat) {α : Type} {E : Enc α} {ty : TypeId} {v : Value} {l : List α} (h : ps[n]? = some (oE (sliceE E ty) [v] l)) (hl : 0 < l.length) (hE : E.size = 1) :
    ∃ g c, v = .slice (some ⟨g, 0, none⟩) l.length c ∧ w0.heap.size ≤ g ∧ (∀ i, w.frozen? ⟨g, i, none⟩ = false) ∧ l.length ≤ c ∧ c ≤ maxLen ∧ ∀ i, i < l.length → ∃ x u f, l[i]? = some x ∧ w.cell? ⟨g, i, none⟩ = some u ∧ E.ow w [u] x f := by
  obtain ⟨_, fp, hh, _⟩ := S
  obtain ⟨⟨v', xss, fps, he, h1, h2, hfp⟩, nd, hlt⟩ := hh n _ h
  simp only [List.cons.injEq, and_true] at he
  subst he
  obtain ⟨hx, h3⟩ := h2
  rcases h3 with ⟨-, h3⟩ | ⟨g, cap, cur, rfl, hg, hh2, hc, hm, hs, ht⟩
  · omega
  have hB : Blk w g cur.toList ty := by unfold Blk; rw [hh2]
  refine ⟨g, cap, rfl, (hlt g (by rw [hfp]; simp [Value.ownBlock])).1, hB.free, hc, hm, fun i hi => ?_⟩
  obtain ⟨xs, f, e1, e2, e3, e4, e5⟩ := h1.rdAt (B := w.heap.size) (h1.lt) i l[i] (List.getElem?_eq_getElem hi)
  have hone := h1.ones hE xs (List.mem_of_getElem? e1)
  obtain ⟨u, rfl⟩ := List.length_eq_one_iff.1 hone
  refine ⟨l[i], u, f, List.getElem?_eq_getElem hi, ?_, e3⟩
  have := e5 0 u rfl
  rw [hE, Nat.mul_one, Nat.add_zero, ← ht, List.getElem?_take] at this
  split at this
  · exact hB.cell i (by simpa using this)
  · cases this

theorem Star.free0 {w0 w : World} {ps : List Ob} (S : Star w0 w ps) (n : Nat) {α : Type} {E : Enc α} {ty : TypeId} {g m c : Nat} {l : List α} (h : ps[n]? = some (oE (sliceE E ty) [.slice (some ⟨g, 0, none⟩) m c] l)) (hl : 0 < l.length) (hE : E.size = 1) :
    ∀ i, w.frozen? ⟨g, i, none⟩ = false := by
  obtain ⟨g', c', e, -, fz, -⟩ := S.at0 n h hl hE
  simp only [Value.slice.injEq, Option.some.injEq, Addr.mk.injEq, and_true] at e
  obtain ⟨rfl, -⟩ := e
  exact fz

theorem sub_flatten {α : Type} : ∀ (L : List (List α)) (i : Nat) (f : List α), L[i]? = some f → f.Sublist L.flatten
  | [], i, f, h => by simp at h
  | a :: L, 0, f, h => by
    obtain rfl : a = f := by simpa using h
    rw [List.flatten_cons]
    exact List.sublist_append_left _ _
  | a :: L, i + 1, f, h => by
    rw [List.flatten_cons]
    exact (sub_flatten L i f (by simpa using h)).trans (List.sublist_append_right _ _)

/-- One element of a slice of one's own; the rest is left. -/
theorem Star.elem {w0 w : World} {ps : List Ob} {α : Type} {E : Enc α} {ty : TypeId} {l : List α} {g n c : Nat} (S : Star w0 w (oE (sliceE E ty) [.slice (some ⟨g, 0, none⟩) n c] l :: ps)) (hE : E.size = 1) (i : Nat) (x : α) (hi : l[i]? = some x) {u : Value} (hu : w.cell? ⟨g, i, none⟩ = some u) :
    Star w0 w (oE E [u] x :: ps) := by
  refine S.upd ?_
  rintro fp ⟨v, xss, fps, he, h1, h2, rfl⟩ nd hlt
  simp only [List.cons.injEq, and_true] at he
  subst he
  obtain ⟨hx, h3⟩ := h2
  rcases h3 with ⟨h3, -⟩ | ⟨g', cap, cur, e3, hg, hh, hc, hm, hs, ht⟩
  · cases h3
  simp only [Value.slice.injEq, Option.some.injEq, Addr.mk.injEq, and_true] at e3
  obtain ⟨rfl, rfl, rfl⟩ := e3
  have hB : Blk w g cur.toList ty := by unfold Blk; rw [hh]
  obtain ⟨xs, f, e1, e2, e3, e4, e5⟩ := h1.rdAt (B := w.heap.size) (h1.lt) i x hi
  have hone := h1.ones hE xs (List.mem_of_getElem? e1)
  obtain ⟨u', rfl⟩ := List.length_eq_one_iff.1 hone
  have hu2 : w.cell? ⟨g, i, none⟩ = some u' := by
    have := e5 0 u' rfl
    rw [hE, Nat.mul_one, Nat.add_zero, ← ht, List.getElem?_take] at this
    split at this
    · exact hB.cell i (by simpa using this)
    · cases this
  obtain rfl : u = u' := Option.some.inj (hu.symm.trans hu2)
  have hs := sub_flatten fps i f e2
  exact ⟨f, e3, (List.nodup_append.1 nd).2.1.sublist hs, fun b hb => .inl (List.mem_append_right _ (hs.subset hb)), fun b hb => hlt b (List.mem_append_right _ (hs.subset hb)), But.refl _ _⟩

end Go.Proofs.YtcifdkliiljmkaaGreatDoor
