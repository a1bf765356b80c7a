/-
  Plain definitions: what the laws' mark.. helpers leave in a value, and what the held.. helpers look for; a value with an element exchanged. No program is named here.
-/
import Derived.Test.YtodoghidckelcaaGreatDoorPackA
namespace Go.Proofs.YtodoghidckelcaaGreatDoor
open Go.RowKit

/-- A value that bears marks from a number on, and how many it bears. -/
structure Mk (α : Type) where
  held : α → Int → Prop
  cnt : α → Nat

def intsM : Mk (List Int) := ⟨fun l k => ∀ i, i < l.length → l[i]?.getD 0 = k + i, List.length⟩
def boolsM : Mk (List Bool) := ⟨fun l k => ∀ i, i < l.length → l[i]?.getD false = decide ((k + i) % 3 = 0), List.length⟩
def movesM : Mk (List Move) := ⟨fun l k => ∀ i, i < l.length → l[i]?.getD default = ⟨k + 2 * i, k + 2 * i + 1⟩, fun l => 2 * l.length⟩
def pmovesM : Mk (List PMove) := ⟨fun l k => ∀ i, i < l.length → l[i]?.getD default = ⟨k + 3 * i, k + 3 * i + 1, k + 3 * i + 1 + 1⟩, fun l => 3 * l.length⟩

def heldL {α : Type} (M : Mk α) : List α → Int → Prop
  | [], _ => True
  | a :: l, k => M.held a k ∧ heldL M l (k + M.cnt a)
def cntL {α : Type} (M : Mk α) (l : List α) : Nat := (l.map M.cnt).sum
def listM {α : Type} (M : Mk α) : Mk (List α) := ⟨heldL M, cntL M⟩

theorem heldL_append {α : Type} (M : Mk α) (l : List α) (a : α) (k : Int) : heldL M (l ++ [a]) k ↔ heldL M l k ∧ M.held a (k + cntL M l) := by
  induction l generalizing k with
  | nil => simp [heldL, cntL]
  | cons b l ih =>
    simp only [List.cons_append, heldL, ih, cntL, List.map_cons, List.sum_cons, and_assoc]
    rw [show k + (M.cnt b : Int) + ((l.map M.cnt).sum : Nat) = k + ((M.cnt b + (l.map M.cnt).sum : Nat) : Int) from by omega]

theorem cntL_append {α : Type} (M : Mk α) (l l' : List α) : cntL M (l ++ l') = cntL M l + cntL M l' := by simp [cntL]

theorem cntL_take_le {α : Type} (M : Mk α) (l : List α) (k : Nat) : cntL M (l.take k) ≤ cntL M l := by
  conv => rhs; rw [← List.take_append_drop k l]
  rw [cntL_append]; omega

theorem cntL_take {α : Type} (M : Mk α) (l : List α) (k : Nat) (x : α) (h : l[k]? = some x) : cntL M (l.take (k + 1)) = cntL M (l.take k) + M.cnt x := by
  obtain ⟨hk, rfl⟩ := List.getElem?_eq_some_iff.1 h
  rw [List.take_succ_eq_append_getElem hk, cntL_append]
  simp [cntL]

theorem heldL_take {α : Type} (M : Mk α) (l : List α) (k : Nat) (j : Int) (x : α) (h : l[k]? = some x) (hh : heldL M l j) : M.held x (j + cntL M (l.take k)) := by
  induction l generalizing k j with
  | nil => simp at h
  | cons a l ih =>
    cases k with
    | zero =>
      simp only [List.getElem?_cons_zero, Option.some.injEq] at h
      subst h
      simpa [cntL] using hh.1
    | succ k =>
      have := ih k (j + M.cnt a) (by simpa using h) hh.2
      rw [List.take_succ_cons]
      have e : cntL M (a :: l.take k) = M.cnt a + cntL M (l.take k) := by simp [cntL]
      rw [e]
      rwa [show j + ((M.cnt a + cntL M (l.take k) : Nat) : Int) = j + (M.cnt a : Int) + (cntL M (l.take k) : Nat) from by omega]

/-! ### A value of its own whose one element is exchanged -/

theorem OwAll.at {α : Type} {E : Enc α} {w : World} {l : List α} {xss : List (List Value)} {fps : List (List Nat)} (h : OwAll E w l xss fps) (hn : fps.flatten.Nodup) :
    ∀ j x, l[j]? = some x → ∃ xs f, xss[j]? = some xs ∧ E.ow w xs x f ∧ f.Nodup ∧ (∀ b, b ∈ f → b ∈ fps.flatten) ∧
      ∀ (w' : World) x', But f w w' → E.ow w' xs x' f → OwAll E w' (l.set j x') xss fps := by
  induction h with
  | nil => intro j x hx; simp at hx
  | @cons a l cs xss f fps h1 h2 ih =>
    rw [List.flatten_cons, List.nodup_append] at hn
    obtain ⟨n1, n2, n3⟩ := hn
    intro j x hx
    cases j with
    | zero =>
      simp only [List.getElem?_cons_zero, Option.some.injEq] at hx
      subst hx
      refine ⟨cs, f, rfl, h1, n1, fun b hb => by simp [hb], fun w' x' hb ho => ?_⟩
      rw [List.set_cons_zero]
      refine .cons ho (h2.frame fun b hm => ?_)
      exact hb.block b (h2.lt b hm) (fun hf => n3 b hf b hm rfl)
    | succ j =>
      obtain ⟨xs, g, e1, e2, e3, e4, e5⟩ := ih n2 j x (by simpa using hx)
      refine ⟨xs, g, by simpa using e1, e2, e3, fun b hb => by rw [List.flatten_cons]; exact List.mem_append_right _ (e4 b hb), fun w' x' hb ho => ?_⟩
      rw [List.set_cons_succ]
      refine .cons (E.ow_but h1 hb (fun b hm hg => n3 b hm b (e4 b hg) rfl)) (e5 w' x' hb ho)

theorem ow_elem {α : Type} {E : Enc α} {ty : TypeId} {w : World} {v : Value} {l : List α} {fp : List Nat} (h : (sliceE E ty).ow w [v] l fp) (hn : fp.Nodup) (j : Nat) (x : α) (hx : l[j]? = some x) :
    ∃ g cap xs f, v = .slice (some ⟨g, 0, none⟩) l.length cap ∧ g < w.heap.size ∧ E.ow w xs x f ∧ f.Nodup ∧ (∀ b, b ∈ f → b ∈ fp ∧ b ≠ g) ∧ (∀ i u, xs[i]? = some u → w.cell? ⟨g, j * E.size + i, none⟩ = some u) ∧
      ∀ (w' : World) x', But f w w' → E.ow w' xs x' f → (sliceE E ty).ow w' [v] (l.set j x') fp := by
  obtain ⟨v', xss, fps, hv, h1, h2, rfl⟩ := h
  obtain rfl : v = v' := by simpa using hv
  rw [List.nodup_append] at hn
  obtain ⟨n1, n2, n3⟩ := hn
  obtain ⟨xs, f, e1, e2, e3, e4, e5⟩ := h1.at n2 j x hx
  have hj := (List.getElem?_eq_some_iff.1 hx).1
  obtain ⟨hl2, hr⟩ := h2
  rcases hr with ⟨_, h0⟩ | ⟨g, cap, cur, rfl, hg, hh, hc, hm, hs, ht⟩
  · omega
  refine ⟨g, cap, xs, f, rfl, (Array.getElem?_eq_some_iff.1 hh).1, e2, e3, fun b hb => ⟨List.mem_append_right _ (e4 b hb), fun e => n3 g (by simp [Value.ownBlock]) b (e4 b hb) e.symm⟩, fun i u hu => ?_, fun w' x' hb ho => ?_⟩
  · obtain ⟨xs', f', q1, _, _, _, q5⟩ := h1.rdAt (B := w.heap.size) h1.lt j x hx
    rw [e1] at q1
    cases q1
    have hf := q5 i u hu
    rw [← ht, List.getElem?_take] at hf
    split at hf
    · unfold World.cell?
      rw [hh]
      simpa using hf
    · cases hf
  · refine ⟨_, xss, fps, rfl, e5 w' x' hb ho, ?_, rfl⟩
    rw [List.length_set]
    refine ⟨hl2, .inr ⟨g, cap, cur, rfl, hg, ?_, hc, hm, hs, ht⟩⟩
    rw [hb.block g (Array.getElem?_eq_some_iff.1 hh).1 (fun hf => n3 g (by simp [Value.ownBlock]) g (e4 g hf) rfl)]
    exact hh

/-- What a mark.. helper does. -/
def Marks {α : Type} (E : Enc α) (M : Mk α) (cs : List Value) (a : α) (fp : List Nat) (k : Int) (w : World) (e : Ending) (w' : World) : Prop :=
  ∃ a', e = .returned (.int .i64 (k + M.cnt a)) ∧ E.ow w' cs a' fp ∧ M.held a' k ∧ M.cnt a' = M.cnt a ∧ But fp w w'

theorem marks_nil {α : Type} {E : Enc α} {M : Mk α} {cs : List Value} {a : α} {fp : List Nat} {k : Int} {w : World} (ho : E.ow w cs a fp) (hm : M.held a k) (hc : M.cnt a = 0) : Marks E M cs a fp k w (.returned (.int .i64 k)) w :=
  ⟨a, by rw [hc]; simp, ho, hm, rfl, But.refl _ _⟩

theorem ow_flat_inv {α : Type} {E : Enc α} {ty : TypeId} {w : World} {v : Value} {l : List α} {fp : List Nat} (c : α → Value) (hE : E.size = 1) (inv : ∀ w xs x f, E.ow w xs x f → xs = [c x] ∧ f = []) (h : (sliceE E ty).ow w [v] l fp) :
    fp = v.ownBlock.toList ∧ w.ownsRow 0 ty 1 v l.length (l.map c) ∧ ∀ x, x ∈ l → E.ow w [c x] x [] := by
  obtain ⟨v', xss, fps, hv, h1, h2, rfl⟩ := h
  obtain rfl : v = v' := by simpa using hv
  have key : xss.flatten = l.map c ∧ fps.flatten = [] ∧ ∀ x, x ∈ l → E.ow w [c x] x [] := by
    clear h2 hv
    induction h1 with
    | nil => exact ⟨rfl, rfl, fun x hx => by cases hx⟩
    | @cons a l cs xss f fps h1 h2 ih =>
      obtain ⟨rfl, rfl⟩ := inv _ _ _ _ h1
      obtain ⟨i1, i2, i3⟩ := ih
      refine ⟨by simp [i1], by simp [i2], fun x hx => ?_⟩
      rcases List.mem_cons.1 hx with rfl | hx
      · exact h1
      · exact i3 x hx
  obtain ⟨k1, k2, k3⟩ := key
  rw [hE, k1] at h2
  exact ⟨by rw [k2, List.append_nil], h2, k3⟩

theorem ow_flats_inv {α : Type} {E : Enc α} {ty : TypeId} {w : World} {v : Value} {l : List α} {fp : List Nat} (c : α → List Value) (inv : ∀ w xs x f, E.ow w xs x f → xs = c x ∧ f = []) (h : (sliceE E ty).ow w [v] l fp) :
    fp = v.ownBlock.toList ∧ w.ownsRow 0 ty E.size v l.length (l.flatMap c) := by
  obtain ⟨v', xss, fps, hv, h1, h2, rfl⟩ := h
  obtain rfl : v = v' := by simpa using hv
  have key : xss.flatten = l.flatMap c ∧ fps.flatten = [] := by
    clear h2 hv
    induction h1 with
    | nil => exact ⟨rfl, rfl⟩
    | @cons a l cs xss f fps h1 h2 ih =>
      obtain ⟨rfl, rfl⟩ := inv _ _ _ _ h1
      obtain ⟨i1, i2⟩ := ih
      exact ⟨by simp [i1], by simp [i2]⟩
  obtain ⟨k1, k2⟩ := key
  rw [k1] at h2
  exact ⟨by rw [k2, List.append_nil], h2⟩

theorem ret_k {a b : Int} (h : a = b) : Value.int .i64 a = Value.int .i64 b := by rw [h]

theorem ow_len {α : Type} {E : Enc α} {ty : TypeId} {w : World} {v : Value} {l : List α} {fp : List Nat} (h : (sliceE E ty).ow w [v] l fp) : l.length ≤ 9223372036854775807 := len_le ((sliceE E ty).rd_ow h)

/-- A slice of slices (or structs of one cell) of which the first j elements have been marked. -/
def MState {α : Type} (E : Enc α) (ty : TypeId) (M : Mk α) (l : List α) (fp : List Nat) (v : Value) (k0 : Int) (w wr : World) (j : Nat) : Prop :=
  ∃ l', (sliceE E ty).ow wr [v] l' fp ∧ But fp w wr ∧ heldL M (l'.take j) k0 ∧ (∀ i, j ≤ i → l'[i]? = l[i]?) ∧ l'.map M.cnt = l.map M.cnt

section
variable {α : Type} {E : Enc α} {ty : TypeId} {M : Mk α} {l : List α} {fp : List Nat} {v : Value} {k0 : Int} {w wr : World} {j : Nat}

theorem MState.start (h : (sliceE E ty).ow w [v] l fp) : MState E ty M l fp v k0 w w 0 := ⟨l, h, But.refl _ _, trivial, fun _ _ => rfl, rfl⟩

theorem cntL_take_congr {l l' : List α} (h : l'.map M.cnt = l.map M.cnt) (j : Nat) : cntL M (l'.take j) = cntL M (l.take j) := by
  unfold cntL
  rw [List.map_take, List.map_take, h]

theorem MState.elem (hE : E.size = 1) (hn : fp.Nodup) (h : MState E ty M l fp v k0 w wr j) {x : α} (hx : l[j]? = some x) :
    ∃ g cap vk f, v = .slice (some ⟨g, 0, none⟩) l.length cap ∧ wr.cell? ⟨g, j, none⟩ = some vk ∧ E.ow wr [vk] x f ∧ f.Nodup ∧
      ∀ (w' : World) x', But f wr w' → E.ow w' [vk] x' f → M.held x' (k0 + cntL M (l.take j)) → M.cnt x' = M.cnt x → MState E ty M l fp v k0 w w' (j + 1) := by
  obtain ⟨l', h1, h2, h3, h4, h5⟩ := h
  have hlen : l'.length = l.length := by have := congrArg List.length h5; simpa using this
  obtain ⟨g, cap, xs, f, e1, e2, e3, e4, e5, e6, e7⟩ := ow_elem h1 hn j x (by rw [h4 j (Nat.le_refl _)]; exact hx)
  have hl := E.rd_len (E.rd_ow e3)
  rw [hE] at hl
  match xs, hl with
  | [vk], _ =>
    rw [hlen] at e1
    refine ⟨g, cap, vk, f, e1, by have := e6 0 vk rfl; rw [hE] at this; simpa using this, e3, e4, fun w' x' hb ho hm hc => ?_⟩
    have hjl : j < l'.length := by rw [hlen]; exact (List.getElem?_eq_some_iff.1 hx).1
    refine ⟨l'.set j x', e7 w' x' hb ho, ?_, ?_, fun i hi => ?_, ?_⟩
    · exact h2.trans ⟨hb.os, hb.tape, hb.output, hb.size, fun k hk hnk => hb.block k hk (fun hf => hnk (e5 k hf).1)⟩
    · rw [List.take_succ_eq_append_getElem (by rw [List.length_set]; exact hjl), heldL_append]
      rw [List.take_set_of_le (Nat.le_refl j)]
      refine ⟨h3, ?_⟩
      rw [List.getElem_set_self, cntL_take_congr h5]
      exact hm
    · rw [List.getElem?_set_ne (by omega)]
      exact h4 i (by omega)
    · rw [List.map_set, h5, hc]
      apply List.ext_getElem?
      intro i
      by_cases e : i = j
      · subst e
        rw [List.getElem?_set_self (by simp; omega), List.getElem?_map, hx]; rfl
      · rw [List.getElem?_set_ne (fun e' => e e'.symm)]

theorem MState.done (h : MState E ty M l fp v k0 w wr l.length) : Marks (sliceE E ty) (listM M) [v] l fp k0 w (.returned (.int .i64 (k0 + cntL M l))) wr := by
  obtain ⟨l', h1, h2, h3, h4, h5⟩ := h
  have hlen : l'.length = l.length := by have := congrArg List.length h5; simpa using this
  refine ⟨l', rfl, h1, ?_, ?_, h2⟩
  · rw [← hlen, List.take_length] at h3; exact h3
  · show cntL M l' = cntL M l
    have := cntL_take_congr h5 l.length
    rwa [← hlen, List.take_length, hlen, List.take_length] at this
end

end Go.Proofs.YtodoghidckelcaaGreatDoor
