/-
  Plain lemmas: an element of a row of a slice of slices of one's own is written anew. No program is named here.
-/
import Derived.Test.YtcifdkliiljmkaaGreatDoorSetEK
import Derived.Test.YtcifdkliiljmkaaGreatDoorPackB
namespace Go.Proofs.YtcifdkliiljmkaaGreatDoor
open Go.RowKit

theorem OwAll.flat_fp {α : Type} {E : Enc α} (hfl : ∀ w cs x f, E.ow w cs x f → f = []) {w : World} {l : List α} {xss : List (List Value)} {fps : List (List Nat)} (h : OwAll E w l xss fps) : fps.flatten = [] := by
  induction h with
  | nil => rfl
  | cons h1 h2 ih => rw [List.flatten_cons, ih, hfl _ _ _ _ h1]; rfl

theorem OwAll.sizes {α : Type} {E : Enc α} {w : World} {l : List α} {xss : List (List Value)} {fps : List (List Nat)} (h : OwAll E w l xss fps) : ∀ x, x ∈ xss → x.length = E.size := by
  induction h with
  | nil => intro x hx; cases hx
  | cons h1 h2 ih =>
    intro x hx
    rcases List.mem_cons.1 hx with rfl | hx
    · exact E.rd_len (E.rd_ow h1)
    · exact ih x hx

theorem flatten_set2 {u v : Value} : ∀ (xss : List (List Value)) (i : Nat), (∀ x, x ∈ xss → x.length = 2) → (xss.set i [u, v]).flatten = (xss.flatten.set (i * 2) u).set (i * 2 + 1) v
  | [], i, _ => by simp
  | x :: xss, i, h => by
    obtain ⟨a, b, rfl⟩ : ∃ a b, x = [a, b] := by
      have hx := h x (by simp)
      match x, hx with
      | [a, b], _ => exact ⟨a, b, rfl⟩
    cases i with
    | zero => simp
    | succ i =>
      have := flatten_set2 (u := u) (v := v) xss i (fun y hy => h y (by simp [hy]))
      rw [List.set_cons_succ, List.flatten_cons, this, show (i + 1) * 2 = i * 2 + 2 from by omega]
      simp

/-- A row of one-cell elements that own nothing. -/
theorem ow_set1 {α : Type} {E : Enc α} {ty : TypeId} {w : World} {l : List α} {g n c : Nat} {f : List Nat} (hE : E.size = 1) (hfl : ∀ w cs x f, E.ow w cs x f → f = []) (o : (sliceE E ty).ow w [.slice (some ⟨g, 0, none⟩) n c] l f) (i : Nat) {u : Value} {y : α}
    (hy : ∀ w, E.ow w [u] y []) : (sliceE E ty).ow (w.setCell ⟨g, i, none⟩ u) [.slice (some ⟨g, 0, none⟩) n c] (l.set i y) f ∧ f = [g] := by
  obtain ⟨v, xss, fps, he, h1, h2, rfl⟩ := o
  simp only [List.cons.injEq, and_true] at he
  subst he
  obtain ⟨hx, h3⟩ := h2
  rcases h3 with ⟨h3, -⟩ | ⟨g', cap, cur, e3, hg, hh, hc, hm, hs, ht⟩
  · cases h3
  simp only [Value.slice.injEq, Option.some.injEq, Addr.mk.injEq, and_true] at e3
  obtain ⟨rfl, rfl, rfl⟩ := e3
  have hf0 := h1.flat_fp hfl
  have hB : Blk w g cur.toList ty := by unfold Blk; rw [hh]
  have hB' := hB.set i u
  have hone := h1.ones hE
  have o1 := (h1.frame (w' := w.setCell ⟨g, i, none⟩ u) (fun b hb => by rw [hf0] at hb; cases hb)).set (hy _) i
  refine ⟨⟨_, xss.set i [u], fps.set i [], rfl, o1, ⟨?_, .inr ⟨g, c, (cur.toList.set i u).toArray, by rw [List.length_set], Nat.zero_le _, hB', by rw [List.length_set]; exact hc, hm, by simpa using hs, ?_⟩⟩, ?_⟩, ?_⟩
  · rw [flatten_set1 _ _ hone, List.length_set, List.length_set]; exact hx
  · rw [flatten_set1 _ _ hone, List.length_set, ← ht, List.take_set]
  · rw [o1.flat_fp hfl, hf0]
  · rw [hf0]; rfl

/-- A row of two-cell elements that own nothing. -/
theorem ow_set2 {α : Type} {E : Enc α} {ty : TypeId} {w : World} {l : List α} {g n c : Nat} {f : List Nat} (hE : E.size = 2) (hfl : ∀ w cs x f, E.ow w cs x f → f = []) (o : (sliceE E ty).ow w [.slice (some ⟨g, 0, none⟩) n c] l f) (i : Nat) {u v : Value} {y : α}
    (hy : ∀ w, E.ow w [u, v] y []) : (sliceE E ty).ow ((w.setCell ⟨g, i * 2, none⟩ u).setCell ⟨g, i * 2 + 1, none⟩ v) [.slice (some ⟨g, 0, none⟩) n c] (l.set i y) f ∧ f = [g] := by
  obtain ⟨v', xss, fps, he, h1, h2, rfl⟩ := o
  simp only [List.cons.injEq, and_true] at he
  subst he
  obtain ⟨hx, h3⟩ := h2
  rcases h3 with ⟨h3, -⟩ | ⟨g', cap, cur, e3, hg, hh, hc, hm, hs, ht⟩
  · cases h3
  simp only [Value.slice.injEq, Option.some.injEq, Addr.mk.injEq, and_true] at e3
  obtain ⟨rfl, rfl, rfl⟩ := e3
  have hf0 := h1.flat_fp hfl
  have hB : Blk w g cur.toList ty := by unfold Blk; rw [hh]
  have hB' := (hB.set (i * 2) u).set (i * 2 + 1) v
  have hone : ∀ x, x ∈ xss → x.length = 2 := fun x hx => by rw [h1.sizes x hx, hE]
  have o1 := (h1.frame (w' := (w.setCell ⟨g, i * 2, none⟩ u).setCell ⟨g, i * 2 + 1, none⟩ v) (fun b hb => by rw [hf0] at hb; cases hb)).set (hy _) i
  refine ⟨⟨_, xss.set i [u, v], fps.set i [], rfl, o1, ⟨?_, .inr ⟨g, c, ((cur.toList.set (i * 2) u).set (i * 2 + 1) v).toArray, by rw [List.length_set], Nat.zero_le _, hB', by rw [List.length_set]; exact hc, hm, by simpa using hs, ?_⟩⟩, ?_⟩, ?_⟩
  · rw [flatten_set2 _ _ hone, List.length_set, List.length_set, List.length_set]; exact hx
  · rw [flatten_set2 _ _ hone, List.length_set, ← ht, ← List.take_set, ← List.take_set]
  · rw [o1.flat_fp hfl, hf0]
  · rw [hf0]; rfl

theorem flatten_same : ∀ (L : List (List Nat)) (i : Nat) (f : List Nat), L[i]? = some f → L.set i f = L
  | [], i, f, h => by simp at h
  | a :: L, 0, f, h => by
    obtain rfl : a = f := by simpa using h
    rfl
  | a :: L, i + 1, f, h => by rw [List.set_cons_succ, flatten_same L i f (by simpa using h)]
theorem xs_same : ∀ (L : List (List Value)) (i : Nat) (f : List Value), L[i]? = some f → L.set i f = L
  | [], i, f, h => by simp at h
  | a :: L, 0, f, h => by
    obtain rfl : a = f := by simpa using h
    rfl
  | a :: L, i + 1, f, h => by rw [List.set_cons_succ, xs_same L i f (by simpa using h)]

theorem OwAll.but {α : Type} {E : Enc α} {w w' : World} {f : List Nat} (hbut : But f w w') : ∀ {l : List α} {xss : List (List Value)} {fps : List (List Nat)}, OwAll E w l xss fps → ∀ (i : Nat) {cs : List Value} {y : α}, fps.flatten.Nodup → fps[i]? = some f → xss[i]? = some cs → E.ow w' cs y f → OwAll E w' (l.set i y) xss fps
  | _, _, _, .nil, i, _, _, _, h, _, _ => by simp at h
  | _, _, _, @OwAll.cons _ _ _ a l cs0 xss f0 fps h1 h2, i, cs, y, nd, hf, hx, hy => by
    have nd2 := nd
    rw [List.flatten_cons, List.nodup_append] at nd2
    cases i with
    | zero =>
      obtain rfl : f0 = f := by simpa using hf
      obtain rfl : cs0 = cs := by simpa using hx
      exact .cons hy (h2.frame fun b hb => hbut.block b (h2.lt b hb) (fun hb2 => nd2.2.2 b hb2 b hb rfl))
    | succ i =>
      have hf' : fps[i]? = some f := by simpa using hf
      have hsub := (sub_flatten fps i f hf').subset
      refine .cons (E.ow_frame (fun b hb => hbut.block b (E.ow_lt h1 b hb) (fun hb2 => nd2.2.2 b hb b (hsub hb2) rfl)) h1) (h2.but hbut i nd2.2.1 hf' (by simpa using hx) hy)

/-- A row of a slice of slices is changed within. -/
theorem Star.inner {w0 w w' : World} {ps : List Ob} {α : Type} {E : Enc α} {ty : TypeId} {l : List α} {g n c : Nat} (S : Star w0 w (oE (sliceE E ty) [.slice (some ⟨g, 0, none⟩) n c] l :: ps)) (hE : E.size = 1) (i : Nat) (x : α) (hi : l[i]? = some x) {u : Value} (hu : w.cell? ⟨g, i, none⟩ = some u) {y : α}
    (h : ∀ f, E.ow w [u] x f → E.ow w' [u] y f ∧ But f w w') : Star w0 w' (oE (sliceE E ty) [.slice (some ⟨g, 0, none⟩) n c] (l.set i y) :: ps) := by
  refine S.upd ?_
  rintro fp ⟨v, xss, fps, he, h1, h2, rfl⟩ nd hlt
  simp only [List.cons.injEq, and_true] at he
  subst he
  obtain ⟨hx, h3⟩ := h2
  rcases h3 with ⟨h3, -⟩ | ⟨g', cap, cur, e3, hg, hh, hc, hm, hs, ht⟩
  · cases h3
  simp only [Value.slice.injEq, Option.some.injEq, Addr.mk.injEq, and_true] at e3
  obtain ⟨rfl, rfl, rfl⟩ := e3
  have ob : (Value.slice (some ⟨g, 0, none⟩) l.length c).ownBlock.toList = [g] := rfl
  have ob2 : (Value.slice (some ⟨g, 0, none⟩) (l.set i y).length c).ownBlock.toList = [g] := rfl
  rw [ob] at nd hlt ⊢
  have hB : Blk w g cur.toList ty := by unfold Blk; rw [hh]
  obtain ⟨xs, f, e1, e2, e3, e4, e5⟩ := h1.rdAt (B := w.heap.size) (h1.lt) i x hi
  have hone := h1.ones hE xs (List.mem_of_getElem? e1)
  obtain ⟨u', rfl⟩ := List.length_eq_one_iff.1 hone
  have hu2 : w.cell? ⟨g, i, none⟩ = some u' := by
    have := e5 0 u' rfl
    rw [hE, Nat.mul_one, Nat.add_zero, ← ht, List.getElem?_take] at this
    split at this
    · exact hB.cell i (by simpa using this)
    · cases this
  obtain rfl : u = u' := Option.some.inj (hu.symm.trans hu2)
  obtain ⟨hy, hbut⟩ := h f e3
  have hsub := (sub_flatten fps i f e2).subset
  have hgn : g ∉ fps.flatten := by
    rw [List.singleton_append, List.nodup_cons] at nd
    exact nd.1
  have ndf : fps.flatten.Nodup := (List.nodup_append.1 nd).2.1
  have hgl : g < w.heap.size := (Array.getElem?_eq_some_iff.1 hh).1
  have hg' : w'.heap[g]? = w.heap[g]? := hbut.block g hgl (fun hb => hgn (hsub hb))
  refine ⟨[g] ++ fps.flatten, ⟨_, xss, fps, rfl, h1.but hbut i ndf e2 e1 hy, ⟨by rw [List.length_set]; exact hx, .inr ⟨g, c, cur, by rw [List.length_set], hg, by rw [hg']; exact hh, by rw [List.length_set]; exact hc, hm, hs, by rw [List.length_set]; exact ht⟩⟩, rfl⟩, nd, fun b hb => .inl hb, fun b hb => Nat.lt_of_lt_of_le (hlt b hb) hbut.size, hbut.mono fun b hb => List.mem_append_right _ (hsub hb)⟩

theorem flat_str : ∀ w cs x f, strE.ow w cs x f → f = [] := fun _ _ _ _ h => h.2
theorem flat_move : ∀ w cs x f, moveE.ow w cs x f → f = [] := by
  rintro w cs x f ⟨c1, c2, f1, f2, -, rfl, h1, h2⟩
  rw [h1.2, h2.2]
  rfl

/-- A text in a row. -/
theorem Star.setStr {w0 w : World} {ps : List Ob} {ty te : TypeId} {l : List (List ByteArray)} {g n c : Nat} (S : Star w0 w (oE (sliceE (sliceE strE te) ty) [.slice (some ⟨g, 0, none⟩) n c] l :: ps)) (i : Nat) (x : List ByteArray) (hi : l[i]? = some x) {rb rn rc : Nat} (hu : w.cell? ⟨g, i, none⟩ = some (.slice (some ⟨rb, 0, none⟩) rn rc)) (j : Nat) (y : ByteArray) (hy : y.size ≤ maxLen) :
    Star w0 (w.setCell ⟨rb, j, none⟩ (.string y)) (oE (sliceE (sliceE strE te) ty) [.slice (some ⟨g, 0, none⟩) n c] (l.set i (x.set j y)) :: ps) :=
  S.inner rfl i x hi hu fun f o => by
    obtain ⟨o2, rfl⟩ := ow_set1 (E := strE) rfl flat_str o j (u := .string y) (y := y) (fun _ => ⟨⟨rfl, hy⟩, rfl⟩)
    exact ⟨o2, (But.refl _ _).setCell (by simp) _⟩

/-- A move in a row. -/
theorem Star.setMove {w0 w : World} {ps : List Ob} {ty te : TypeId} {l : List (List Move)} {g n c : Nat} (S : Star w0 w (oE (sliceE (sliceE moveE te) ty) [.slice (some ⟨g, 0, none⟩) n c] l :: ps)) (i : Nat) (x : List Move) (hi : l[i]? = some x) {rb rn rc : Nat} (hu : w.cell? ⟨g, i, none⟩ = some (.slice (some ⟨rb, 0, none⟩) rn rc)) (j : Nat) (a b : Int) (ha : -9223372036854775808 ≤ a ∧ a ≤ 9223372036854775807) (hb : -9223372036854775808 ≤ b ∧ b ≤ 9223372036854775807) :
    Star w0 ((w.setCell ⟨rb, j * 2, none⟩ (.int .i64 a)).setCell ⟨rb, j * 2 + 1, none⟩ (.int .i64 b)) (oE (sliceE (sliceE moveE te) ty) [.slice (some ⟨g, 0, none⟩) n c] (l.set i (x.set j ⟨a, b⟩)) :: ps) :=
  S.inner rfl i x hi hu fun f o => by
    obtain ⟨o2, rfl⟩ := ow_set2 (E := moveE) rfl flat_move o j (u := .int .i64 a) (v := .int .i64 b) (y := ⟨a, b⟩) (fun _ => ⟨[_], [_], [], [], rfl, rfl, ⟨⟨rfl, ha⟩, rfl⟩, ⟨⟨rfl, hb⟩, rfl⟩⟩)
    exact ⟨o2, ((But.refl _ _).setCell (by simp) _).setCell (by simp) _⟩

end Go.Proofs.YtcifdkliiljmkaaGreatDoor
