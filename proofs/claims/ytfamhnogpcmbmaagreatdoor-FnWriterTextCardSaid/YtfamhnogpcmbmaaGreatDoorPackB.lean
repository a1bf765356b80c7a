/-
  What this claim leans on: values in cells, contracts of functions (14 texts of this claim's own, laid together).
-/
import Derived.Test.YtfamhnogpcmbmaaGreatDoorPackA
import Derived.Laws.IdiomStrings
import Derived.Laws.CopyOwn
/-
  What right turners and writers hold (written by a program of this claim's own, gen_text.py).
-/
namespace Go.Proofs.YtfamhnogpcmbmaaGreatDoor
open Go.RowKit

/-- What a right move holds. -/
def mvOk (m : Move) : Prop := m.to = -1 ∨ m.to = -2 ∨ ((0 ≤ m.to ∧ m.to ≤ 99) ∧ (-1 ≤ m.dir ∧ m.dir ≤ 1))

theorem mvOk_of {m : Move} {n l k : Int} (h : moveOk m n l k = true) (hn : n ≤ 99) : mvOk m := by
  unfold moveOk at h
  rw [Bool.or_eq_true] at h
  rcases h with h | h
  · unfold isStopB at h
    rw [Bool.and_eq_true, Bool.or_eq_true, beq_iff_eq, beq_iff_eq] at h
    rcases h.1 with h | h
    · exact .inl h
    · exact .inr (.inl h)
  · rw [Bool.and_eq_true, Bool.and_eq_true, Bool.and_eq_true] at h
    have h1 := within_true.1 h.1.1.1
    have h2 := within_true.1 h.1.1.2
    exact .inr (.inr ⟨⟨by omega, by omega⟩, h2⟩)

structure TurnOk (t : Turner) : Prop where
  l1 : 1 ≤ t.letters
  l3 : t.letters ≤ 3
  n1 : 1 ≤ t.moves.length
  n12 : t.moves.length ≤ 12
  s0 : 0 ≤ t.start
  s1 : t.start < t.moves.length
  row : ∀ x, x ∈ t.moves → (x.length : Int) = t.letters + 2 ∧ ∀ k, k < x.length → moveOk (x[k]?.getD default) t.moves.length t.letters k = true

theorem turnOk_of {t : Turner} (h : validTurn t = true) : TurnOk t := by
  unfold validTurn at h
  rw [Bool.and_eq_true, Bool.and_eq_true, Bool.and_eq_true] at h
  have h1 := within_true.1 h.1
  have h2 := within_true.1 h.2.1
  have h3 := within_true.1 h.2.2.1
  refine ⟨h1.1, h1.2, by omega, by omega, h3.1, by omega, fun x hx => ?_⟩
  have h4 := List.all_eq_true.1 h.2.2.2 x hx
  unfold mrowOk at h4
  rw [Bool.and_eq_true, decide_eq_true_eq] at h4
  exact ⟨h4.1, fun k hk => List.all_eq_true.1 h4.2 k (List.mem_range.2 hk)⟩

theorem TurnOk.len {t : Turner} (K : TurnOk t) {x : List Move} (hx : x ∈ t.moves) : x.length ≤ 5 := by
  have := (K.row x hx).1; have := K.l3; omega

theorem TurnOk.mv {t : Turner} (K : TurnOk t) {x : List Move} (hx : x ∈ t.moves) {k : Nat} (hk : k < x.length) : mvOk (x[k]?.getD default) :=
  mvOk_of ((K.row x hx).2 k hk) (by have := K.n12; omega)

theorem mem_getD {α : Type} [Inhabited α] {l : List α} {k : Nat} (h : k < l.length) : l[k]?.getD default ∈ l := by
  rw [List.getElem?_eq_getElem h]; exact List.getElem_mem h

theorem getD_of_mem {α : Type} [Inhabited α] {l : List α} {x : α} (h : x ∈ l) : ∃ k, k < l.length ∧ l[k]?.getD default = x := by
  obtain ⟨k, hk, he⟩ := List.getElem_of_mem h
  exact ⟨k, hk, by rw [List.getElem?_eq_getElem hk]; exact he⟩

structure WritOk (r : Writer) : Prop where
  t : TurnOk r.turner
  v : validTurn r.turner = true
  n : r.out.length = r.turner.moves.length
  row : ∀ s, s < r.out.length → (r.out[s]?.getD default).length = (r.turner.moves[s]?.getD default).length ∧ ∀ x, x ∈ r.out[s]?.getD default → outOk x = true

theorem writOk_of {r : Writer} (h : writerOk r = true) : WritOk r := by
  unfold writerOk at h
  rw [Bool.and_eq_true, Bool.and_eq_true, decide_eq_true_eq] at h
  refine ⟨turnOk_of h.1, h.1, h.2.1, fun s hs => ?_⟩
  have h4 := List.all_eq_true.1 h.2.2 s (List.mem_range.2 (by omega))
  unfold orowOk at h4
  rw [Bool.and_eq_true, decide_eq_true_eq] at h4
  exact ⟨h4.1, fun x hx => List.all_eq_true.1 h4.2 x hx⟩

theorem out_size {x : ByteArray} (h : outOk x = true) : x.size ≤ 3 := by
  unfold outOk at h
  rw [Bool.and_eq_true, decide_eq_true_eq] at h
  exact h.1

theorem WritOk.len {r : Writer} (K : WritOk r) {x : List ByteArray} (hx : x ∈ r.out) : x.length ≤ 5 := by
  obtain ⟨s, hs, rfl⟩ := getD_of_mem hx
  rw [(K.row s hs).1]
  exact K.t.len (mem_getD (by rw [← K.n]; exact hs))

theorem WritOk.sz {r : Writer} (K : WritOk r) {x : List ByteArray} (hx : x ∈ r.out) {y : ByteArray} (hy : y ∈ x) : y.size ≤ 3 := by
  obtain ⟨s, hs, rfl⟩ := getD_of_mem hx
  exact out_size ((K.row s hs).2 y hy)

end Go.Proofs.YtfamhnogpcmbmaaGreatDoor

/-
  Plain definitions: what the laws' mark.. helpers leave in a value, and what the held.. helpers look for; a value with an element exchanged. No program is named here.
-/
namespace Go.Proofs.YtfamhnogpcmbmaaGreatDoor
open Go.RowKit

/-- A value that bears marks from a number on, and how many it bears. -/
structure Mk (α : Type) where
  held : α → Int → Prop
  cnt : α → Nat

def intsM : Mk (List Int) := ⟨fun l k => ∀ i, i < l.length → l[i]?.getD 0 = k + i, List.length⟩
def boolsM : Mk (List Bool) := ⟨fun l k => ∀ i, i < l.length → l[i]?.getD false = decide ((k + i) % 3 = 0), List.length⟩
def movesM : Mk (List Move) := ⟨fun l k => ∀ i, i < l.length → l[i]?.getD default = ⟨k + 2 * i, k + 2 * i + 1⟩, fun l => 2 * l.length⟩
def pmovesM : Mk (List PMove) := ⟨fun l k => ∀ i, i < l.length → l[i]?.getD default = ⟨k + 3 * i, k + 3 * i + 1, k + 3 * i + 1 + 1⟩, fun l => 3 * l.length⟩

def heldL {α : Type} (M : Mk α) : List α → Int → Prop
  | [], _ => True
  | a :: l, k => M.held a k ∧ heldL M l (k + M.cnt a)
def cntL {α : Type} (M : Mk α) (l : List α) : Nat := (l.map M.cnt).sum
def listM {α : Type} (M : Mk α) : Mk (List α) := ⟨heldL M, cntL M⟩

theorem heldL_append {α : Type} (M : Mk α) (l : List α) (a : α) (k : Int) : heldL M (l ++ [a]) k ↔ heldL M l k ∧ M.held a (k + cntL M l) := by
  induction l generalizing k with
  | nil => simp [heldL, cntL]
  | cons b l ih =>
    simp only [List.cons_append, heldL, ih, cntL, List.map_cons, List.sum_cons, and_assoc]
    rw [show k + (M.cnt b : Int) + ((l.map M.cnt).sum : Nat) = k + ((M.cnt b + (l.map M.cnt).sum : Nat) : Int) from by omega]

theorem cntL_append {α : Type} (M : Mk α) (l l' : List α) : cntL M (l ++ l') = cntL M l + cntL M l' := by simp [cntL]

theorem cntL_take_le {α : Type} (M : Mk α) (l : List α) (k : Nat) : cntL M (l.take k) ≤ cntL M l := by
  conv => rhs; rw [← List.take_append_drop k l]
  rw [cntL_append]; omega

theorem cntL_take {α : Type} (M : Mk α) (l : List α) (k : Nat) (x : α) (h : l[k]? = some x) : cntL M (l.take (k + 1)) = cntL M (l.take k) + M.cnt x := by
  obtain ⟨hk, rfl⟩ := List.getElem?_eq_some_iff.1 h
  rw [List.take_succ_eq_append_getElem hk, cntL_append]
  simp [cntL]

theorem heldL_take {α : Type} (M : Mk α) (l : List α) (k : Nat) (j : Int) (x : α) (h : l[k]? = some x) (hh : heldL M l j) : M.held x (j + cntL M (l.take k)) := by
  induction l generalizing k j with
  | nil => simp at h
  | cons a l ih =>
    cases k with
    | zero =>
      simp only [List.getElem?_cons_zero, Option.some.injEq] at h
      subst h
      simpa [cntL] using hh.1
    | succ k =>
      have := ih k (j + M.cnt a) (by simpa using h) hh.2
      rw [List.take_succ_cons]
      have e : cntL M (a :: l.take k) = M.cnt a + cntL M (l.take k) := by simp [cntL]
      rw [e]
      rwa [show j + ((M.cnt a + cntL M (l.take k) : Nat) : Int) = j + (M.cnt a : Int) + (cntL M (l.take k) : Nat) from by omega]

/-! ### A value of its own whose one element is exchanged -/

theorem OwAll.at {α : Type} {E : Enc α} {w : World} {l : List α} {xss : List (List Value)} {fps : List (List Nat)} (h : OwAll E w l xss fps) (hn : fps.flatten.Nodup) :
    ∀ j x, l[j]? = some x → ∃ xs f, xss[j]? = some xs ∧ E.ow w xs x f ∧ f.Nodup ∧ (∀ b, b ∈ f → b ∈ fps.flatten) ∧
      ∀ (w' : World) x', But f w w' → E.ow w' xs x' f → OwAll E w' (l.set j x') xss fps := by
  induction h with
  | nil => intro j x hx; simp at hx
  | @cons a l cs xss f fps h1 h2 ih =>
    rw [List.flatten_cons, List.nodup_append] at hn
    obtain ⟨n1, n2, n3⟩ := hn
    intro j x hx
    cases j with
    | zero =>
      simp only [List.getElem?_cons_zero, Option.some.injEq] at hx
      subst hx
      refine ⟨cs, f, rfl, h1, n1, fun b hb => by simp [hb], fun w' x' hb ho => ?_⟩
      rw [List.set_cons_zero]
      refine .cons ho (h2.frame fun b hm => ?_)
      exact hb.block b (h2.lt b hm) (fun hf => n3 b hf b hm rfl)
    | succ j =>
      obtain ⟨xs, g, e1, e2, e3, e4, e5⟩ := ih n2 j x (by simpa using hx)
      refine ⟨xs, g, by simpa using e1, e2, e3, fun b hb => by rw [List.flatten_cons]; exact List.mem_append_right _ (e4 b hb), fun w' x' hb ho => ?_⟩
      rw [List.set_cons_succ]
      refine .cons (E.ow_but h1 hb (fun b hm hg => n3 b hm b (e4 b hg) rfl)) (e5 w' x' hb ho)

theorem ow_elem {α : Type} {E : Enc α} {ty : TypeId} {w : World} {v : Value} {l : List α} {fp : List Nat} (h : (sliceE E ty).ow w [v] l fp) (hn : fp.Nodup) (j : Nat) (x : α) (hx : l[j]? = some x) :
    ∃ g cap xs f, v = .slice (some ⟨g, 0, none⟩) l.length cap ∧ g < w.heap.size ∧ E.ow w xs x f ∧ f.Nodup ∧ (∀ b, b ∈ f → b ∈ fp ∧ b ≠ g) ∧ (∀ i u, xs[i]? = some u → w.cell? ⟨g, j * E.size + i, none⟩ = some u) ∧
      ∀ (w' : World) x', But f w w' → E.ow w' xs x' f → (sliceE E ty).ow w' [v] (l.set j x') fp := by
  obtain ⟨v', xss, fps, hv, h1, h2, rfl⟩ := h
  obtain rfl : v = v' := by simpa using hv
  rw [List.nodup_append] at hn
  obtain ⟨n1, n2, n3⟩ := hn
  obtain ⟨xs, f, e1, e2, e3, e4, e5⟩ := h1.at n2 j x hx
  have hj := (List.getElem?_eq_some_iff.1 hx).1
  obtain ⟨hl2, hr⟩ := h2
  rcases hr with ⟨_, h0⟩ | ⟨g, cap, cur, rfl, hg, hh, hc, hm, hs, ht⟩
  · omega
  refine ⟨g, cap, xs, f, rfl, (Array.getElem?_eq_some_iff.1 hh).1, e2, e3, fun b hb => ⟨List.mem_append_right _ (e4 b hb), fun e => n3 g (by simp [Value.ownBlock]) b (e4 b hb) e.symm⟩, fun i u hu => ?_, fun w' x' hb ho => ?_⟩
  · obtain ⟨xs', f', q1, _, _, _, q5⟩ := h1.rdAt (B := w.heap.size) h1.lt j x hx
    rw [e1] at q1
    cases q1
    have hf := q5 i u hu
    rw [← ht, List.getElem?_take] at hf
    split at hf
    · unfold World.cell?
      rw [hh]
      simpa using hf
    · cases hf
  · refine ⟨_, xss, fps, rfl, e5 w' x' hb ho, ?_, rfl⟩
    rw [List.length_set]
    refine ⟨hl2, .inr ⟨g, cap, cur, rfl, hg, ?_, hc, hm, hs, ht⟩⟩
    rw [hb.block g (Array.getElem?_eq_some_iff.1 hh).1 (fun hf => n3 g (by simp [Value.ownBlock]) g (e4 g hf) rfl)]
    exact hh

/-- What a mark.. helper does. -/
def Marks {α : Type} (E : Enc α) (M : Mk α) (cs : List Value) (a : α) (fp : List Nat) (k : Int) (w : World) (e : Ending) (w' : World) : Prop :=
  ∃ a', e = .returned (.int .i64 (k + M.cnt a)) ∧ E.ow w' cs a' fp ∧ M.held a' k ∧ M.cnt a' = M.cnt a ∧ But fp w w'

theorem marks_nil {α : Type} {E : Enc α} {M : Mk α} {cs : List Value} {a : α} {fp : List Nat} {k : Int} {w : World} (ho : E.ow w cs a fp) (hm : M.held a k) (hc : M.cnt a = 0) : Marks E M cs a fp k w (.returned (.int .i64 k)) w :=
  ⟨a, by rw [hc]; simp, ho, hm, rfl, But.refl _ _⟩

theorem ow_flat_inv {α : Type} {E : Enc α} {ty : TypeId} {w : World} {v : Value} {l : List α} {fp : List Nat} (c : α → Value) (hE : E.size = 1) (inv : ∀ w xs x f, E.ow w xs x f → xs = [c x] ∧ f = []) (h : (sliceE E ty).ow w [v] l fp) :
    fp = v.ownBlock.toList ∧ w.ownsRow 0 ty 1 v l.length (l.map c) ∧ ∀ x, x ∈ l → E.ow w [c x] x [] := by
  obtain ⟨v', xss, fps, hv, h1, h2, rfl⟩ := h
  obtain rfl : v = v' := by simpa using hv
  have key : xss.flatten = l.map c ∧ fps.flatten = [] ∧ ∀ x, x ∈ l → E.ow w [c x] x [] := by
    clear h2 hv
    induction h1 with
    | nil => exact ⟨rfl, rfl, fun x hx => by cases hx⟩
    | @cons a l cs xss f fps h1 h2 ih =>
      obtain ⟨rfl, rfl⟩ := inv _ _ _ _ h1
      obtain ⟨i1, i2, i3⟩ := ih
      refine ⟨by simp [i1], by simp [i2], fun x hx => ?_⟩
      rcases List.mem_cons.1 hx with rfl | hx
      · exact h1
      · exact i3 x hx
  obtain ⟨k1, k2, k3⟩ := key
  rw [hE, k1] at h2
  exact ⟨by rw [k2, List.append_nil], h2, k3⟩

theorem ow_flats_inv {α : Type} {E : Enc α} {ty : TypeId} {w : World} {v : Value} {l : List α} {fp : List Nat} (c : α → List Value) (inv : ∀ w xs x f, E.ow w xs x f → xs = c x ∧ f = []) (h : (sliceE E ty).ow w [v] l fp) :
    fp = v.ownBlock.toList ∧ w.ownsRow 0 ty E.size v l.length (l.flatMap c) := by
  obtain ⟨v', xss, fps, hv, h1, h2, rfl⟩ := h
  obtain rfl : v = v' := by simpa using hv
  have key : xss.flatten = l.flatMap c ∧ fps.flatten = [] := by
    clear h2 hv
    induction h1 with
    | nil => exact ⟨rfl, rfl⟩
    | @cons a l cs xss f fps h1 h2 ih =>
      obtain ⟨rfl, rfl⟩ := inv _ _ _ _ h1
      obtain ⟨i1, i2⟩ := ih
      exact ⟨by simp [i1], by simp [i2]⟩
  obtain ⟨k1, k2⟩ := key
  rw [k1] at h2
  exact ⟨by rw [k2, List.append_nil], h2⟩

theorem ret_k {a b : Int} (h : a = b) : Value.int .i64 a = Value.int .i64 b := by rw [h]

theorem ow_len {α : Type} {E : Enc α} {ty : TypeId} {w : World} {v : Value} {l : List α} {fp : List Nat} (h : (sliceE E ty).ow w [v] l fp) : l.length ≤ 9223372036854775807 := len_le ((sliceE E ty).rd_ow h)

/-- A slice of slices (or structs of one cell) of which the first j elements have been marked. -/
def MState {α : Type} (E : Enc α) (ty : TypeId) (M : Mk α) (l : List α) (fp : List Nat) (v : Value) (k0 : Int) (w wr : World) (j : Nat) : Prop :=
  ∃ l', (sliceE E ty).ow wr [v] l' fp ∧ But fp w wr ∧ heldL M (l'.take j) k0 ∧ (∀ i, j ≤ i → l'[i]? = l[i]?) ∧ l'.map M.cnt = l.map M.cnt

section
variable {α : Type} {E : Enc α} {ty : TypeId} {M : Mk α} {l : List α} {fp : List Nat} {v : Value} {k0 : Int} {w wr : World} {j : Nat}

theorem MState.start (h : (sliceE E ty).ow w [v] l fp) : MState E ty M l fp v k0 w w 0 := ⟨l, h, But.refl _ _, trivial, fun _ _ => rfl, rfl⟩

theorem cntL_take_congr {l l' : List α} (h : l'.map M.cnt = l.map M.cnt) (j : Nat) : cntL M (l'.take j) = cntL M (l.take j) := by
  unfold cntL
  rw [List.map_take, List.map_take, h]

theorem MState.elem (hE : E.size = 1) (hn : fp.Nodup) (h : MState E ty M l fp v k0 w wr j) {x : α} (hx : l[j]? = some x) :
    ∃ g cap vk f, v = .slice (some ⟨g, 0, none⟩) l.length cap ∧ wr.cell? ⟨g, j, none⟩ = some vk ∧ E.ow wr [vk] x f ∧ f.Nodup ∧
      ∀ (w' : World) x', But f wr w' → E.ow w' [vk] x' f → M.held x' (k0 + cntL M (l.take j)) → M.cnt x' = M.cnt x → MState E ty M l fp v k0 w w' (j + 1) := by
  obtain ⟨l', h1, h2, h3, h4, h5⟩ := h
  have hlen : l'.length = l.length := by have := congrArg List.length h5; simpa using this
  obtain ⟨g, cap, xs, f, e1, e2, e3, e4, e5, e6, e7⟩ := ow_elem h1 hn j x (by rw [h4 j (Nat.le_refl _)]; exact hx)
  have hl := E.rd_len (E.rd_ow e3)
  rw [hE] at hl
  match xs, hl with
  | [vk], _ =>
    rw [hlen] at e1
    refine ⟨g, cap, vk, f, e1, by have := e6 0 vk rfl; rw [hE] at this; simpa using this, e3, e4, fun w' x' hb ho hm hc => ?_⟩
    have hjl : j < l'.length := by rw [hlen]; exact (List.getElem?_eq_some_iff.1 hx).1
    refine ⟨l'.set j x', e7 w' x' hb ho, ?_, ?_, fun i hi => ?_, ?_⟩
    · exact h2.trans ⟨hb.os, hb.tape, hb.output, hb.size, fun k hk hnk => hb.block k hk (fun hf => hnk (e5 k hf).1)⟩
    · rw [List.take_succ_eq_append_getElem (by rw [List.length_set]; exact hjl), heldL_append]
      rw [List.take_set_of_le (Nat.le_refl j)]
      refine ⟨h3, ?_⟩
      rw [List.getElem_set_self, cntL_take_congr h5]
      exact hm
    · rw [List.getElem?_set_ne (by omega)]
      exact h4 i (by omega)
    · rw [List.map_set, h5, hc]
      apply List.ext_getElem?
      intro i
      by_cases e : i = j
      · subst e
        rw [List.getElem?_set_self (by simp; omega), List.getElem?_map, hx]; rfl
      · rw [List.getElem?_set_ne (fun e' => e e'.symm)]

theorem MState.done (h : MState E ty M l fp v k0 w wr l.length) : Marks (sliceE E ty) (listM M) [v] l fp k0 w (.returned (.int .i64 (k0 + cntL M l))) wr := by
  obtain ⟨l', h1, h2, h3, h4, h5⟩ := h
  have hlen : l'.length = l.length := by have := congrArg List.length h5; simpa using this
  refine ⟨l', rfl, h1, ?_, ?_, h2⟩
  · rw [← hlen, List.take_length] at h3; exact h3
  · show cntL M l' = cntL M l
    have := cntL_take_congr h5 l.length
    rwa [← hlen, List.take_length, hlen, List.take_length] at this
end

end Go.Proofs.YtfamhnogpcmbmaaGreatDoor

/-
  Contracts of the laws' own helpers at one slice type (written by a program of this claim's own, gen_leaf.py).
-/
namespace Go.Proofs.YtfamhnogpcmbmaaGreatDoor
open Go.RowKit

set_option maxHeartbeats 1000000 in
theorem markMoveS_any (v : Value) (l : List Move) (fp : List Nat) (k0 : Int) (w : World) (h : movesE.ow w [v] l fp) (h0 : 0 ≤ k0) (h1 : k0 + movesM.cnt l ≤ 4611686018427387904) :
    Calls Tryz.prog 96 #[v, .int .i64 k0] w (Marks movesE movesM [v] l fp k0 w) := by
  have h1 : k0 + 2 * (l.length : Int) ≤ 4611686018427387904 := by have : movesM.cnt l = 2 * l.length := rfl; omega
  obtain ⟨n, hn⟩ : ∃ n, n = l.length := ⟨_, rfl⟩
  obtain ⟨rfl, hO⟩ := ow_flats_inv (E := moveE) cMove (fun _ _ _ _ h => ⟨(ow_moveE_inv h).1, (ow_moveE_inv h).2.1⟩) h
  rw [← hn] at hO h1
  clear h
  have Hn := Lib.hid hn; clear hn
  rcases hO.2 with ⟨rfl, h00⟩ | ⟨g, cap, cur, rfl, -, -, hnc, hcm, -⟩
  · have hl0 := Lib.hid (List.eq_nil_of_length_eq_zero (by rw [← Hn.out]; exact h00))
    subst h00
    have HO := Lib.hid hO; clear hO
    go_enter Tryz.func96, Tryz.ntmps96
    go_wp2
    go_loop [1, 5] (fun k i => i = .int .i64 0 ∧ k = .int .i64 k0) (fun _ _ => 0)
    case atStart => exact ⟨rfl, rfl⟩
    case round =>
      obtain ⟨rfl, rfl⟩ := hrel
      go_wp2
      go_ret
      have e := hl0.out
      subst e
      exact marks_nil (ow_flats cMove (fun x hx => by cases hx) HO.out) (fun i hi => absurd hi (by simp)) rfl
  · simp only [maxLen] at hcm
    have hOs : w.ownsRow 0 75 2 (.slice (some ⟨g, 0, none⟩) n cap) n (l.flatMap cMove) := hO
    clear hO
    go_enter Tryz.func96, Tryz.ntmps96
    go_wp2
    go_loopw [1, 5] (fun k i wr => ∃ j : Nat, ∃ l' : List Move, j ≤ n ∧ i = .int .i64 j ∧ k = .int .i64 (k0 + 2 * (j : Int)) ∧ But [g] w wr ∧ Hid (l'.length = n) ∧ wr.ownsRow 0 75 2 (.slice (some ⟨g, 0, none⟩) n cap) n (l'.flatMap cMove) ∧ Hid (∀ i, i < j → l'[i]?.getD default = ⟨k0 + 2 * (i : Int), k0 + 2 * (i : Int) + 1⟩)) (fun _ i _ => n - (intOf i).toNat)
    case atStart => exact ⟨0, l, by omega, rfl, by simp, But.refl _ _, Lib.hid Hn.out.symm, hOs, Lib.hid (fun i hi => absurd hi (by omega))⟩
    case round =>
      obtain ⟨j, l', hj, rfl, rfl, hB, HL, hO', HJ⟩ := hrel
      by_cases hlt : j < n
      · have jn : (j : Int) < n := by omega
        have z0 : wr.cell? ⟨g, j * 2, none⟩ = some (.int .i64 (l'[j]?.getD default).to) := by
          rw [hO'.cellAt (j * 2) (by omega)]; have := flatMap_get default cMove 2 (fun _ => rfl) l' j 0 (by rw [HL.out]; exact hlt) (by omega); rw [show j * 2 = j * 2 + 0 from rfl, this]; rfl
        have z1 : wr.cell? ⟨g, j * 2 + 1, none⟩ = some (.int .i64 (l'[j]?.getD default).dir) := by
          rw [hO'.cellAt (j * 2 + 1) (by omega)]; have := flatMap_get default cMove 2 (fun _ => rfl) l' j 1 (by rw [HL.out]; exact hlt) (by omega); rw [this]; rfl
        have f0 := hO'.frozenAt (j * 2)
        have f1 := hO'.frozenAt (j * 2 + 1)
        have HS := Lib.hid (((hO'.stored (j * 2) (.int .i64 (k0 + 2 * (j : Int)))).1.stored (j * 2 + 1) (.int .i64 (k0 + 2 * (j : Int) + 1))).1)
        clear hO'
        have HX : Hid ((((l'.flatMap cMove).set (j * 2) (.int .i64 (k0 + 2 * (j : Int)))).set (j * 2 + 1) (.int .i64 (k0 + 2 * (j : Int) + 1))) = (l'.set j (⟨k0 + 2 * (j : Int), k0 + 2 * (j : Int) + 1⟩ : Move)).flatMap cMove) := by
          have e0 : (l'.flatMap cMove).set (j * 2) (.int .i64 (k0 + 2 * (j : Int))) = (l'.set j (⟨k0 + 2 * (j : Int), (l'[j]?.getD default).dir⟩ : Move)).flatMap cMove := flatMap_set default cMove 2 (fun _ => rfl) l' j 0 (.int .i64 (k0 + 2 * (j : Int))) ⟨k0 + 2 * (j : Int), (l'[j]?.getD default).dir⟩ (by simp [HL.out]; exact hlt) (by omega) (by simp [HL.out, hlt, cMove])
          have e1 : ((l'.set j (⟨k0 + 2 * (j : Int), (l'[j]?.getD default).dir⟩ : Move)).flatMap cMove).set (j * 2 + 1) (.int .i64 (k0 + 2 * (j : Int) + 1)) = ((l'.set j (⟨k0 + 2 * (j : Int), (l'[j]?.getD default).dir⟩ : Move)).set j (⟨k0 + 2 * (j : Int), k0 + 2 * (j : Int) + 1⟩ : Move)).flatMap cMove := flatMap_set default cMove 2 (fun _ => rfl) (l'.set j (⟨k0 + 2 * (j : Int), (l'[j]?.getD default).dir⟩ : Move)) j 1 (.int .i64 (k0 + 2 * (j : Int) + 1)) ⟨k0 + 2 * (j : Int), k0 + 2 * (j : Int) + 1⟩ (by simp [HL.out]; exact hlt) (by omega) (by simp [HL.out, hlt, cMove])
          rw [List.set_set] at e1
          exact Lib.hid (by rw [e0, e1])
        generalize (l'[j]?.getD default) = x0 at *
        go_wp2
        go_roundw
        case rel =>
          refine ⟨j + 1, l'.set j ⟨k0 + 2 * (j : Int), k0 + 2 * (j : Int) + 1⟩, by omega, by go_num, ret_k (by omega), ((hB.setCell (by simp) _).setCell (by simp) _), Lib.hid (by rw [List.length_set]; exact HL.out), by rw [← HX.out]; exact HS.out, Lib.hid (fun i hi => ?_)⟩
          by_cases e : i = j
          · subst e; rw [List.getElem?_set_self (by rw [HL.out]; exact hlt)]; rfl
          · rw [List.getElem?_set_ne (fun e' => e e'.symm)]; exact HJ.out i (by omega)
        case measure => simp [intOf]; omega
      · obtain rfl : j = n := by omega
        go_wp2
        go_ret
        refine ⟨l', by rw [show movesM.cnt l = 2 * l.length from rfl, ← Hn.out]; show Ending.returned (.int .i64 (k0 + 2 * (j : Int))) = _; congr 2 <;> omega, ?_, fun i hi => HJ.out i (by rw [← HL.out]; exact hi), by show 2 * l'.length = 2 * l.length; rw [HL.out, Hn.out], hB⟩
        refine ow_flats cMove (fun x hx => ?_) (by rw [HL.out]; exact hO')
        obtain ⟨i, hi, rfl⟩ := List.getElem_of_mem hx
        have hi' := HJ.out i (by rw [← HL.out]; exact hi)
        rw [List.getElem?_eq_getElem hi] at hi'
        simp only [Option.getD_some] at hi'
        rw [hi']
        have := HL.out
        exact ow_moveE ⟨by constructor <;> simp only <;> omega, by constructor <;> simp only <;> omega⟩

set_option maxHeartbeats 1000000 in
theorem heldMoveS_any (v : Value) (l : List Move) (B : Nat) (k0 : Int) (w : World) (h : movesE.rd w B [v] l) (hm : movesM.held l k0) (h0 : 0 ≤ k0) (h1 : k0 + movesM.cnt l ≤ 4611686018427387904) :
    Calls Tryz.prog 98 #[v, .int .i64 k0] w (Gives (.int .i64 (k0 + movesM.cnt l)) w) := by
  have h1 : k0 + 2 * (l.length : Int) ≤ 4611686018427387904 := by have : movesM.cnt l = 2 * l.length := rfl; omega
  have Hc := Lib.hid (show (movesM.cnt l : Int) = 2 * (l.length : Int) by have : movesM.cnt l = 2 * l.length := rfl; omega)
  obtain ⟨a, cap, rfl, a1, a2, -, a4⟩ := rd_movesE h
  clear h
  obtain ⟨n, hn⟩ : ∃ n, n = l.length := ⟨_, rfl⟩
  rw [← hn] at a1 a4 h1 Hc ⊢
  have Hn := Lib.hid hn; clear hn
  have H4 := Lib.hid a4; clear a4
  have Hm : Hid (∀ i, i < l.length → l[i]?.getD default = ⟨k0 + 2 * (i : Int), k0 + 2 * (i : Int) + 1⟩) := Lib.hid hm
  clear hm
  go_enter Tryz.func98, Tryz.ntmps98
  go_wp2
  go_loopw [1, 5] (fun k i wr => ∃ j : Nat, j ≤ n ∧ i = .int .i64 j ∧ k = .int .i64 (k0 + 2 * (j : Int)) ∧ Below w.heap.size w wr) (fun _ i _ => n - (intOf i).toNat)
  case atStart => exact ⟨0, by omega, rfl, by simp, Below.refl _ _⟩
  case round =>
    obtain ⟨j, hj, rfl, rfl, hB⟩ := hrel
    by_cases hlt : j < n
    · have jn : (j : Int) < n := by omega
      obtain ⟨b, o, rfl, -, ⟨hc0, hc1⟩, -⟩ := H4.out j hlt
      rw [Hm.out j (by rw [← Hn.out]; exact hlt)] at hc0 hc1
      have c10 := (hB.cell (World.block_lt_of_cell? w _ hc0)).trans hc0
      have c11 := (hB.cell (World.block_lt_of_cell? w _ hc1)).trans hc1
      clear hc0 hc1
      dsimp only at c10 c11
      have t0 : ((k0 + 2 * (j : Int)) != (k0 + 2 * (j : Int))) = false := by simp
      have t1 : ((k0 + 2 * (j : Int) + 1) != (k0 + 2 * (j : Int) + 1)) = false := by simp
      go_wp2
      go_roundw
      case rel => exact ⟨j + 1, by omega, by go_num, ret_k (by omega), hB⟩
      case measure => simp [intOf]; omega
    · obtain rfl : j = n := by omega
      go_wp2
      go_ret
      exact ⟨by rw [Hc.out]; rfl, hB⟩

end Go.Proofs.YtfamhnogpcmbmaaGreatDoor

/-
  Contracts of the laws' own helpers at one slice type (written by a program of this claim's own, gen_leaf.py).
-/
namespace Go.Proofs.YtfamhnogpcmbmaaGreatDoor
open Go.RowKit

set_option maxHeartbeats 400000 in
theorem markMoveSS_any (v : Value) (l : List (List Move)) (fp : List Nat) (k0 : Int) (w : World) (h : movessE.ow w [v] l fp) (hn : fp.Nodup) (h0 : 0 ≤ k0) (h1 : k0 + cntL movesM l ≤ 4611686018427387904) :
    Calls Tryz.prog 67 #[v, .int .i64 k0] w (Marks movessE (listM movesM) [v] l fp k0 w) := by
  have hlen := ow_len h
  obtain ⟨a, cap, rfl⟩ := ow_shape h
  obtain ⟨n, hnl⟩ : ∃ n, n = l.length := ⟨_, rfl⟩
  have hS := Lib.hid (MState.start (M := movesM) (k0 := k0) h)
  rw [← hnl] at hlen hS ⊢
  have Hn := Lib.hid hnl; clear hnl h
  have Hnd := Lib.hid hn; clear hn
  go_enter Tryz.func67, Tryz.ntmps67
  go_wp2
  go_loopw [1, 5] (fun k i wr => ∃ j : Nat, ∃ q : Int, j ≤ n ∧ i = .int .i64 j ∧ k = .int .i64 q ∧ Hid (q = k0 + cntL movesM (l.take j)) ∧ MState movesE 60 movesM l fp (.slice a n cap) k0 w wr j) (fun _ i _ => n - (intOf i).toNat)
  case atStart => exact ⟨0, k0, by omega, rfl, rfl, Lib.hid (by simp [cntL]), hS.out⟩
  case round =>
    obtain ⟨j, q, hj, rfl, rfl, HQ, HS⟩ := hrel
    by_cases hlt : j < n
    · obtain ⟨x, hx⟩ : ∃ x, l[j]? = some x := ⟨_, get_some default (by rw [← Hn.out]; exact hlt)⟩
      obtain ⟨g, cap', vk, f, hv, c1, ho, hf, hstep⟩ := HS.elem rfl Hnd.out hx
      simp only [Value.slice.injEq] at hv
      obtain ⟨rfl, -, rfl⟩ := hv
      have hc : cntL movesM (l.take (j + 1)) = cntL movesM (l.take j) + movesM.cnt x := cntL_take movesM l j x hx
      have hc2 := cntL_take_le movesM l (j + 1)
      have hq0 : 0 ≤ q := by have := HQ.out; omega
      have hq1 : q + movesM.cnt x ≤ 4611686018427387904 := by have := HQ.out; omega
      have HC : Hid (q + (movesM.cnt x : Int) = k0 + cntL movesM (l.take (j + 1))) := Lib.hid (by rw [hc, HQ.out]; omega)
      have HST := Lib.hid hstep; clear hstep hx HS hc hc2
      have HF := Lib.hid hf; clear hf
      go_wp2_with fail
      refine (markMoveS_any _ x f q _ ho hq0 hq1).mono ?_
      rintro e w1 ⟨x', rfl, ho', hm', hc', hb'⟩
      have HS2 := HST.out w1 x' hb' ho' (by rw [← HQ.out]; exact hm') hc'
      clear ho ho' hm' hc' hb'
      generalize q + (movesM.cnt x : Int) = q2 at *
      go_wp2
      go_roundw
      case rel => exact ⟨j + 1, q2, by omega, by go_num, rfl, HC, HS2⟩
      case measure => simp [intOf]; omega
    · obtain rfl : j = n := by omega
      have HQ2 : Hid (q = k0 + cntL movesM l) := Lib.hid (by have := HQ.out; rwa [Hn.out, List.take_length] at this)
      rw [Hn.out] at HS
      go_wp2
      go_ret
      have := HS.done
      rw [← HQ2.out] at this
      rw [Hn.out]
      exact this

set_option maxHeartbeats 400000 in
theorem heldMoveSS_any (v : Value) (l : List (List Move)) (B : Nat) (k0 : Int) (w : World) (hB0 : B ≤ w.heap.size) (h : movessE.rd w B [v] l) (hm : heldL movesM l k0) (h0 : 0 ≤ k0) (h1 : k0 + cntL movesM l ≤ 4611686018427387904) :
    Calls Tryz.prog 69 #[v, .int .i64 k0] w (Gives (.int .i64 (k0 + cntL movesM l)) w) := by
  obtain ⟨a, cap, rfl, a1, a2, -, a4⟩ := rd_slice1 rfl h
  clear h
  obtain ⟨n, hn⟩ : ∃ n, n = l.length := ⟨_, rfl⟩
  rw [← hn] at a1 a4 ⊢
  have Hn := Lib.hid hn; clear hn
  have H4 := Lib.hid a4; clear a4
  have Hm := Lib.hid hm; clear hm
  go_enter Tryz.func69, Tryz.ntmps69
  go_wp2
  go_loopw [1, 5] (fun k i wr => ∃ j : Nat, ∃ q : Int, j ≤ n ∧ i = .int .i64 j ∧ k = .int .i64 q ∧ Hid (q = k0 + cntL movesM (l.take j)) ∧ Below w.heap.size w wr) (fun _ i _ => n - (intOf i).toNat)
  case atStart => exact ⟨0, k0, by omega, rfl, rfl, Lib.hid (by simp [cntL]), Below.refl _ _⟩
  case round =>
    obtain ⟨j, q, hj, rfl, rfl, HQ, hB⟩ := hrel
    by_cases hlt : j < n
    · obtain ⟨b, o, vk, rfl, -, hc, hr⟩ := H4.out j hlt
      have c1 := (hB.cell (World.block_lt_of_cell? w _ hc)).trans hc
      have HR := Lib.hid (movesE.rd_of (hB.mono hB0) hr)
      have HX := Lib.hid (get_some default (l := l) (k := j) (by rw [← Hn.out]; exact hlt))
      clear hc hr
      generalize l[j]?.getD default = x at *
      have hc : cntL movesM (l.take (j + 1)) = cntL movesM (l.take j) + movesM.cnt x := cntL_take movesM l j x HX.out
      have hc2 := cntL_take_le movesM l (j + 1)
      have hq0 : 0 ≤ q := by have := HQ.out; omega
      have hq1 : q + movesM.cnt x ≤ 4611686018427387904 := by have := HQ.out; omega
      have HC : Hid (q + (movesM.cnt x : Int) = k0 + cntL movesM (l.take (j + 1))) := Lib.hid (by rw [hc, HQ.out]; omega)
      have HMx := Lib.hid (show movesM.held x q by rw [HQ.out]; exact heldL_take movesM l j k0 x HX.out Hm.out)
      clear hc hc2
      go_wp2_with fail
      refine (heldMoveS_any _ x B q _ HR.out HMx.out hq0 hq1).mono ?_
      rintro e w1 ⟨rfl, hbl⟩
      have B1 := hB.trans (hbl.mono hB.size)
      have ht : ¬ q + (movesM.cnt x : Int) < 0 := by omega
      clear hbl hB
      generalize q + (movesM.cnt x : Int) = q2 at *
      go_wp2
      go_roundw
      case rel => exact ⟨j + 1, q2, by omega, by go_num, rfl, HC, B1⟩
      case measure => simp [intOf]; omega
    · obtain rfl : j = n := by omega
      have HQ2 : Hid (q = k0 + cntL movesM l) := Lib.hid (by have := HQ.out; rwa [Hn.out, List.take_length] at this)
      go_wp2
      go_ret
      exact ⟨by rw [← HQ2.out]; rfl, hB⟩

end Go.Proofs.YtfamhnogpcmbmaaGreatDoor

/-
  Two small laws for the marks of structs.
-/
namespace Go.Proofs.YtfamhnogpcmbmaaGreatDoor
open Go.RowKit

theorem But.mono {fp fq : List Nat} {w w' : World} (h : But fp w w') (hs : ∀ b, b ∈ fp → b ∈ fq) : But fq w w' :=
  ⟨h.os, h.tape, h.output, h.size, fun k hk hn => h.block k hk (fun hp => hn (hs k hp))⟩

theorem ret_k_ret {a b : Int} (h : a = b) : Ending.returned (Value.int .i64 a) = Ending.returned (Value.int .i64 b) := by rw [h]

end Go.Proofs.YtfamhnogpcmbmaaGreatDoor

/-
  The contracts of the laws' own markTurner and heldTurner (written by a program of this claim's own, gen_structs.py).
-/
namespace Go.Proofs.YtfamhnogpcmbmaaGreatDoor
open Go.RowKit

def turnM : Mk Turner := ⟨fun r k => (listM movesM).held r.moves (k), fun r => (listM movesM).cnt r.moves⟩

set_option maxHeartbeats 1000000 in
theorem markTurner_any (cs : List Value) (r : Turner) (fp : List Nat) (k0 : Int) (w : World) (h : turnE.ow w cs r fp) (hn : fp.Nodup) (h0 : 0 ≤ k0) (h1 : k0 + turnM.cnt r ≤ 4611686018427387904) :
    Calls Tryz.prog 35 #[.agg cs.toArray, .int .i64 k0] w (Marks turnE turnM cs r fp k0 w) := by
  obtain ⟨v2, f2, rfl, b0, b1, hh2, rfl⟩ := ow_Turner_inv h
  obtain ⟨sa2, sn2, sc2, rfl⟩ := rd_slice (movessE.rd_ow hh2)
  have n2 := hn
  clear hn h
  have N2 := Lib.hid n2; clear n2
  have L2 := Lib.hid (movessE.ow_lt hh2)
  have O2 := Lib.hid hh2; clear hh2
  have HC : Hid (k0 + (((listM movesM).cnt r.moves : Nat) : Int) ≤ 4611686018427387904) := Lib.hid h1
  clear h1
  go_enter Tryz.func35, Tryz.ntmps35
  go_wp2_with fail
  generalize hW : w.alloc _ = w0
  obtain ⟨A0, hB⟩ := blk1 hW
  clear hW
  obtain ⟨g, hg⟩ : ∃ g, g = w.heap.size := ⟨_, rfl⟩
  rw [← hg] at A0 ⊢
  have Hg := Lib.hid hg; clear hg
  have BT := Lib.hid (But.of_below (fp := fp) hB)
  have O2 := Lib.hid (movessE.ow_of hB O2.out)
  clear hB
  have HA := Lib.hid A0; clear A0
  refine (markMoveSS_any _ r.moves fp k0 _ O2.out N2.out (by omega) (show k0 + ((listM movesM).cnt r.moves : Int) ≤ 4611686018427387904 from by have := HC.out; omega)).mono ?_
  rintro e w1 ⟨x2, rfl, p2, m2, k2, bt⟩
  have BT := Lib.hid (BT.out.trans (bt.mono (fun b hb => hb)))
  have HA := Lib.hid (HA.out.but bt (fun hb => by have := L2.out _ hb; have := Hg.out; omega))
  have O2 := Lib.hid p2; have M2 := Lib.hid m2; have K2 := Lib.hid k2
  clear bt p2 m2 k2
  obtain ⟨q0, hq⟩ : ∃ q : Int, q = k0 + ((listM movesM).cnt r.moves : Int) := ⟨_, rfl⟩
  rw [← hq]
  have g0 : 0 ≤ q0 := by omega
  have HQ0 := Lib.hid hq; clear hq
  go_wp2
  go_ret
  have mm0 := M2.out
  refine ⟨{ r with moves := x2 }, ret_k_ret (by show _ = k0 + (((listM movesM).cnt r.moves : Nat) : Int); have := HQ0.out; omega), ?_, mm0, ?_, BT.out⟩
  · exact ow_Turner (r := { r with moves := x2 }) b0 b1 O2.out
  · show (listM movesM).cnt x2 = (listM movesM).cnt r.moves
    rw [K2.out]

set_option maxHeartbeats 1000000 in
theorem heldTurner_any (cs : List Value) (r : Turner) (B : Nat) (k0 : Int) (w : World) (hB0 : B ≤ w.heap.size) (h : turnE.rd w B cs r) (hm : turnM.held r k0) (h0 : 0 ≤ k0) (h1 : k0 + turnM.cnt r ≤ 4611686018427387904) :
    Calls Tryz.prog 37 #[.agg cs.toArray, .int .i64 k0] w (Gives (.int .i64 (k0 + turnM.cnt r)) w) := by
  obtain ⟨v2, rfl, -, -, hh2⟩ := rd_Turner h
  obtain ⟨sa2, sn2, sc2, rfl⟩ := rd_slice hh2
  have R2 := Lib.hid hh2; clear hh2
  have m2 := hm
  clear hm
  have M2 := Lib.hid m2; clear m2
  have HC : Hid (k0 + (((listM movesM).cnt r.moves : Nat) : Int) ≤ 4611686018427387904) := Lib.hid h1
  clear h1 h
  go_enter Tryz.func37, Tryz.ntmps37
  go_wp2_with fail
  generalize hW : w.alloc _ = w0
  obtain ⟨A0, hB⟩ := blk1 hW
  clear hW
  have HA := Lib.hid A0; clear A0
  have HB := Lib.hid hB; clear hB
  have hmk := M2.out
  refine (heldMoveSS_any _ r.moves B k0 _ (Nat.le_trans hB0 HB.out.size) (movessE.rd_of (HB.out.mono hB0) R2.out) hmk (by omega) (show k0 + ((listM movesM).cnt r.moves : Int) ≤ 4611686018427387904 from by have := HC.out; omega)).mono ?_
  rintro e w1 ⟨he, b⟩
  clear hmk
  have he : e = .returned (.int .i64 (k0 + ((listM movesM).cnt r.moves : Int))) := he
  have HA := Lib.hid (HA.out.of b HA.out.lt)
  have HB := Lib.hid (HB.out.trans (b.mono HB.out.size))
  clear b
  obtain ⟨q0, hq⟩ : ∃ q : Int, q = k0 + ((listM movesM).cnt r.moves : Int) := ⟨_, rfl⟩
  rw [← hq] at he
  subst he
  have g0 : 0 ≤ q0 := by omega
  have t0 : ¬ q0 < 0 := by omega
  have HQ0 := Lib.hid hq; clear hq
  go_wp2
  go_ret
  exact ⟨ret_k_ret (by show _ = k0 + (((listM movesM).cnt r.moves : Nat) : Int); have := HQ0.out; omega), HB.out⟩

end Go.Proofs.YtfamhnogpcmbmaaGreatDoor

/-
  The laws' own markText: a text that hangs on its number alone.
-/
namespace Go.Proofs.YtfamhnogpcmbmaaGreatDoor
open Go.RowKit

def mtLoop (q : Nat) (out : ByteArray) : ByteArray := if h : q = 0 then out else mtLoop (q / 10) (⟨#[UInt8.ofNat (48 + q % 10)]⟩ ++ out)
termination_by q
decreasing_by omega

/-- The text of a number above 0. -/
def mText (k : Int) : ByteArray := ⟨#[109]⟩ ++ mtLoop k.toNat ⟨#[]⟩

theorem mtLoop_zero (out : ByteArray) : mtLoop 0 out = out := by rw [mtLoop]; rfl
theorem mtLoop_pos {q : Nat} (h : 0 < q) (out : ByteArray) : mtLoop q out = mtLoop (q / 10) (⟨#[UInt8.ofNat (48 + q % 10)]⟩ ++ out) := by rw [mtLoop, dif_neg (by omega)]

theorem ten_pow {q s K : Nat} (hq : 0 < q) (h : q * 10 ^ s ≤ K) (hK : K ≤ 4611686018427387904) : s ≤ 18 := by
  refine Nat.le_of_not_lt fun hs => ?_
  have h1 : 10 ^ 19 ≤ 10 ^ s := Nat.pow_le_pow_right (by omega) hs
  have h2 : 10 ^ s ≤ q * 10 ^ s := Nat.le_mul_of_pos_left _ hq
  omega

set_option maxHeartbeats 1000000 in
set_option maxRecDepth 100000 in
theorem markText_any (k : Int) (hk : 0 < k) (hk2 : k ≤ 4611686018427387904) (w : World) : Calls Tryz.prog 97 #[.int .i64 k] w (Gives (.string (mText k)) w) := by
  have t1 : ¬ k ≤ 0 := by omega
  obtain ⟨K, rfl⟩ : ∃ K : Nat, k = K := ⟨k.toNat, by omega⟩
  have HR : Hid (mText (K : Int) = ⟨#[109]⟩ ++ mtLoop K ⟨#[]⟩) := Lib.hid rfl
  obtain ⟨res, hres⟩ : ∃ r, r = mText (K : Int) := ⟨_, rfl⟩
  rw [← hres] at HR ⊢
  clear hres
  go_enter Tryz.func97, Tryz.ntmps97
  go_wp2
  go_loopw [0, 3] (fun n s wr => ∃ q : Nat, ∃ out : ByteArray, n = .int .i64 q ∧ s = .string out ∧ q ≤ 4611686018427387904 ∧ out.size ≤ 19 ∧ Hid (0 < q → q * 10 ^ out.size ≤ K) ∧ Hid (mtLoop q out = mtLoop K ⟨#[]⟩) ∧ Below w.heap.size w wr) (fun n _ _ => (intOf n).toNat)
  case atStart => exact ⟨K, _, rfl, rfl, by omega, by decide, Lib.hid (fun _ => by rw [show (ByteArray.mk #[]).size = 0 from rfl]; omega), Lib.hid rfl, Below.refl _ _⟩
  case round =>
    obtain ⟨q, out, rfl, rfl, hqb, hs, HP, HM, B⟩ := hrel
    by_cases hq : 0 < q
    case neg =>
      obtain rfl : q = 0 := by omega
      have HE : Hid (res = ⟨#[109]⟩ ++ out) := Lib.hid (by rw [HR.out, ← HM.out, mtLoop_zero])
      go_wp2
      go_ret
      exact ⟨by rw [HE.out]; rfl, B⟩
    have h18 := ten_pow hq (HP.out hq) (by omega)
    have hm : q % 10 < 10 := Nat.mod_lt _ (by omega)
    have hpos := mtLoop_pos hq out
    obtain ⟨z, hz⟩ : ∃ z, z = q % 10 := ⟨_, rfl⟩
    have hrem : (q : Int).tmod 10 = (z : Int) := by rw [hz]; rfl
    obtain ⟨y, hy⟩ : ∃ y, y = q / 10 := ⟨_, rfl⟩
    have hquo : (q : Int).tdiv 10 = (y : Int) := by rw [hy]; rfl
    rw [← hz] at hm hpos
    rw [← hy] at hpos
    have hyq : y * 10 ≤ q := by omega
    obtain ⟨d, hd⟩ : ∃ d, d = UInt8.ofNat (48 + z) := ⟨_, rfl⟩
    rw [← hd] at hpos
    have hdn : (d.toNat : Int) = 48 + (z : Int) := by
      rw [hd, UInt8.toNat_ofNat']
      have : (48 + z) % 2 ^ 8 = 48 + z := Nat.mod_eq_of_lt (by omega)
      omega
    have hlt : y < q := by omega
    have HPOS := Lib.hid hpos; clear hpos hz hy hd
    have w0 : IntKind.i64.wrap (48 + (z : Int)) = 48 + (z : Int) := IntWalk.i64_in _ ⟨by omega, by omega⟩
    have w1 : IntKind.i64.wrap (y : Int) = (y : Int) := IntWalk.i64_in _ ⟨by omega, by omega⟩
    have w2 : IntKind.u8.wrap (48 + (z : Int)) = 48 + (z : Int) := IntWalk.u8_in _ ⟨by omega, by omega⟩
    have hcv := run_convert_bytes_back (P := Tryz.prog) (wr.alloc (.cells #[.int .u8 (48 + (z : Int))] 5)) 22 9 5 ⟨wr.heap.size, 0, none⟩ 1 [d] Tryz.underlying22 Tryz.underlying5 Tryz.underlying9 (fun j hj => by
      obtain rfl : j = 0 := by simpa using hj
      rw [Addr.add_lit]
      simp [hdn])
    have hsz : ((⟨#[d]⟩ : ByteArray) ++ out).size = out.size + 1 := by rw [ByteArray.size_append]; exact Nat.add_comm _ _
    have HSZ := Lib.hid hsz; have HDN := Lib.hid hdn
    have hl1 : [d].length = 1 := rfl
    rw [hl1] at hcv
    clear hsz hdn
    go_wp2
    go_roundw
    case rel =>
      refine ⟨y, _, rfl, rfl, by omega, by rw [HSZ.out]; omega, Lib.hid (fun hy => ?_), Lib.hid (by rw [← HM.out, HPOS.out]), B.alloc B.size _⟩
      rw [HSZ.out, Nat.pow_succ, Nat.mul_comm (10 ^ out.size) 10, ← Nat.mul_assoc]
      exact Nat.le_trans (Nat.mul_le_mul_right _ hyq) (HP.out hq)
    case measure => simp [intOf]; omega

end Go.Proofs.YtfamhnogpcmbmaaGreatDoor

/-
  The laws' own markStringS and heldStringS (written by a program of this claim's own, gen_mstrs.py).
-/
namespace Go.Proofs.YtfamhnogpcmbmaaGreatDoor
open Go.RowKit

def strsM : Mk (List ByteArray) := ⟨fun l k => ∀ i, i < l.length → l[i]?.getD ByteArray.empty = mText (k + i), List.length⟩

theorem mtLoop_size (K : Nat) (hK : K ≤ 4611686018427387904) : ∀ n q out, q ≤ n → out.size ≤ 19 → (0 < q → q * 10 ^ out.size ≤ K) → (mtLoop q out).size ≤ 19 := by
  intro n
  induction n with
  | zero => intro q out hq hs _; obtain rfl : q = 0 := by omega
            rw [mtLoop_zero]; exact hs
  | succ n ih =>
    intro q out hq hs hp
    by_cases h : 0 < q
    · have h18 := ten_pow h (hp h) hK
      rw [mtLoop_pos h]
      have hsz : ((⟨#[UInt8.ofNat (48 + q % 10)]⟩ : ByteArray) ++ out).size = out.size + 1 := by rw [ByteArray.size_append]; exact Nat.add_comm _ _
      refine ih _ _ (by omega) (by rw [hsz]; omega) (fun _ => ?_)
      rw [hsz, Nat.pow_succ, Nat.mul_comm (10 ^ out.size) 10, ← Nat.mul_assoc]
      exact Nat.le_trans (Nat.mul_le_mul_right _ (by omega)) (hp h)
    · obtain rfl : q = 0 := by omega
      rw [mtLoop_zero]; exact hs

theorem mText_size (k : Int) (hk : 0 < k) (hk2 : k ≤ 4611686018427387904) : (mText k).size ≤ 20 := by
  unfold mText
  have := mtLoop_size k.toNat (by omega) k.toNat k.toNat ⟨#[]⟩ (Nat.le_refl _) (by decide) (fun _ => by rw [show (ByteArray.mk #[]).size = 0 from rfl]; omega)
  have h1 : (ByteArray.mk #[109]).size = 1 := rfl
  rw [ByteArray.size_append, h1]
  omega

set_option maxHeartbeats 400000 in
theorem markStringS_any (v : Value) (l : List ByteArray) (fp : List Nat) (k0 : Int) (w : World) (h : strsE.ow w [v] l fp) (h0 : 0 < k0) (h1 : k0 + l.length ≤ 4611686018427387904) :
    Calls Tryz.prog 68 #[v, .int .i64 k0] w (Marks strsE strsM [v] l fp k0 w) := by
  obtain ⟨n, hn⟩ : ∃ n, n = l.length := ⟨_, rfl⟩
  obtain ⟨rfl, hO, hE⟩ := ow_flat_inv (E := strE) (Value.string) rfl (fun _ _ _ _ h => ⟨h.1.1, h.2⟩) h
  rw [← hn] at hO h1
  clear h
  have Hn := Lib.hid hn; clear hn
  rcases hO.2 with ⟨rfl, h00⟩ | ⟨g, cap, cur, rfl, -, -, hnc, hcm, -⟩
  · have hl0 := Lib.hid (List.eq_nil_of_length_eq_zero (by rw [← Hn.out]; exact h00))
    subst h00
    have HO := Lib.hid hO; clear hO
    go_enter Tryz.func68, Tryz.ntmps68
    go_wp2
    go_loop [1, 5] (fun k i => i = .int .i64 0 ∧ k = .int .i64 k0) (fun _ _ => 0)
    case atStart => exact ⟨rfl, rfl⟩
    case round =>
      obtain ⟨rfl, rfl⟩ := hrel
      go_wp2
      go_ret
      have e := hl0.out
      subst e
      exact marks_nil (ow_flat (Value.string) rfl (fun x hx => by cases hx) HO.out) (fun i hi => absurd hi (by simp)) rfl
  · have HE := Lib.hid hE; clear hE
    simp only [maxLen] at hcm
    go_enter Tryz.func68, Tryz.ntmps68
    go_wp2
    go_loopw [1, 5] (fun k i wr => ∃ j : Nat, ∃ l' : List ByteArray, j ≤ n ∧ i = .int .i64 j ∧ k = .int .i64 (k0 + j) ∧ But [g] w wr ∧ Hid (l'.length = n) ∧ wr.ownsRow 0 9 1 (.slice (some ⟨g, 0, none⟩) n cap) n (l'.map (Value.string)) ∧ Hid (∀ i, i < j → l'[i]?.getD ByteArray.empty = mText (k0 + i))) (fun _ i _ => n - (intOf i).toNat)
    case atStart => exact ⟨0, l, by omega, rfl, by simp, But.refl _ _, Lib.hid Hn.out.symm, hO, Lib.hid (fun i hi => absurd hi (by omega))⟩
    case round =>
      obtain ⟨j, l', hj, rfl, rfl, hB, HL, hO', HJ⟩ := hrel
      by_cases hlt : j < n
      · go_wp2_with fail
        refine (markText_any _ (by omega) (by omega) _).mono ?_
        rintro e w1 ⟨rfl, b⟩
        have hO1 := ownsRow_below hO' b
        have hB1 := hB.trans (But.of_below b)
        have c1 := hO1.cellAt j (by omega)
        have c2 : w1.cell? ⟨g, j, none⟩ = some (Value.string (l'[j]?.getD ByteArray.empty)) := by
          rw [c1, List.getElem?_map, get_some ByteArray.empty (by rw [HL.out]; exact hlt)]; rfl
        have c3 := hO1.frozenAt j
        have HS := Lib.hid ((hO1.stored j (Value.string (mText (k0 + j)))).1)
        clear c1 hO' hO1 b hB
        generalize l'[j]?.getD ByteArray.empty = x0 at c2
        obtain ⟨tx, htx⟩ : ∃ t, t = mText (k0 + (j : Int)) := ⟨_, rfl⟩
        rw [← htx] at HS ⊢
        have HTX := Lib.hid htx; clear htx
        go_wp2
        go_roundw
        case rel =>
          refine ⟨j + 1, l'.set j tx, by omega, by go_num, by go_num, hB1.setCell (by simp) _, Lib.hid (by rw [List.length_set]; exact HL.out), by rw [List.map_set]; exact HS.out, Lib.hid (fun i hi => ?_)⟩
          by_cases e : i = j
          · subst e; rw [List.getElem?_set_self (by rw [HL.out]; exact hlt), ← HTX.out]; rfl
          · rw [List.getElem?_set_ne (fun e' => e e'.symm)]; exact HJ.out i (by omega)
        case measure => simp [intOf]; omega
      · obtain rfl : j = n := by omega
        go_wp2
        go_ret
        refine ⟨l', by rw [show strsM.cnt l = l.length from rfl, ← Hn.out]; rfl, ?_, fun i hi => HJ.out i (by rw [← HL.out]; exact hi), by show l'.length = l.length; rw [HL.out, Hn.out], hB⟩
        have hE' := HE.out
        refine ow_flat (Value.string) rfl (fun x hx => ?_) (by rw [HL.out]; exact hO')
        obtain ⟨i, hi, rfl⟩ := List.getElem_of_mem hx
        have hi' := HJ.out i (by rw [← HL.out]; exact hi)
        rw [List.getElem?_eq_getElem hi] at hi'
        simp only [Option.getD_some] at hi'
        rw [hi']
        exact ⟨⟨rfl, Nat.le_trans (mText_size _ (by omega) (by have := HL.out; omega)) (by simp [maxLen])⟩, rfl⟩

set_option maxHeartbeats 400000 in
theorem heldStringS_any (v : Value) (l : List ByteArray) (B : Nat) (k0 : Int) (w : World) (h : strsE.rd w B [v] l) (hm : strsM.held l k0) (h0 : 0 < k0) (h1 : k0 + l.length ≤ 4611686018427387904) :
    Calls Tryz.prog 70 #[v, .int .i64 k0] w (Gives (.int .i64 (k0 + strsM.cnt l)) w) := by
  obtain ⟨a, cap, rfl, a1, a2, -, a4⟩ := rd_strs h
  clear h
  have Hc := Lib.hid (show (strsM.cnt l : Int) = l.length from rfl)
  obtain ⟨n, hn⟩ : ∃ n, n = l.length := ⟨_, rfl⟩
  rw [← hn] at a1 a4 h1 Hc ⊢
  have Hn := Lib.hid hn; clear hn
  have H4 := Lib.hid a4; clear a4
  have Hm : Hid (∀ i, i < l.length → l[i]?.getD ByteArray.empty = mText (k0 + i)) := Lib.hid hm
  clear hm
  go_enter Tryz.func70, Tryz.ntmps70
  go_wp2
  go_loopw [1, 5] (fun k i wr => ∃ j : Nat, j ≤ n ∧ i = .int .i64 j ∧ k = .int .i64 (k0 + j) ∧ Below w.heap.size w wr) (fun _ i _ => n - (intOf i).toNat)
  case atStart => exact ⟨0, by omega, rfl, by simp, Below.refl _ _⟩
  case round =>
    obtain ⟨j, hj, rfl, rfl, hB⟩ := hrel
    by_cases hlt : j < n
    · obtain ⟨b, o, rfl, -, hc, -⟩ := H4.out j hlt
      have gb := World.block_lt_of_cell? w _ hc
      have c1 := (hB.cell gb).trans hc
      have g1 : b < wr.heap.size := Nat.lt_of_lt_of_le gb hB.size
      clear hc gb
      rw [Hm.out j (by rw [← Hn.out]; exact hlt)] at c1
      have hov := cell_over wr
      have hmt := fun w => markText_any (k0 + (j : Int)) (by omega) (by omega) w
      obtain ⟨tx, htx⟩ : ∃ t, t = mText (k0 + (j : Int)) := ⟨_, rfl⟩
      rw [← htx] at c1 hmt
      have HM := Lib.hid hmt; clear hmt htx
      have teq : (tx.toList == tx.toList) = true := by simp
      go_wp2
      refine wp_region_over (by kernel_rfl) (by kernel_rfl) ?_
      repeat (go_big_quiet_step ((go_at_call 97; exact calls_over (HM.out _))))
      refine wpQuiet_nil ?_
      intro w1 hw1
      go_wp2
      go_roundw
      case rel => exact ⟨j + 1, by omega, by go_num, by go_num, hB.trans (hw1.mono hB.size)⟩
      case measure => simp [intOf]; omega
    · obtain rfl : j = n := by omega
      go_wp2
      go_ret
      exact ⟨by rw [Hc.out]; rfl, hB⟩

end Go.Proofs.YtfamhnogpcmbmaaGreatDoor

/-
  Contracts of the laws' own helpers at one slice type (written by a program of this claim's own, gen_leaf.py).
-/
namespace Go.Proofs.YtfamhnogpcmbmaaGreatDoor
open Go.RowKit

set_option maxHeartbeats 400000 in
theorem markStringSS_any (v : Value) (l : List (List ByteArray)) (fp : List Nat) (k0 : Int) (w : World) (h : strssE.ow w [v] l fp) (hn : fp.Nodup) (h0 : 0 < k0) (h1 : k0 + cntL strsM l ≤ 4611686018427387904) :
    Calls Tryz.prog 36 #[v, .int .i64 k0] w (Marks strssE (listM strsM) [v] l fp k0 w) := by
  have hlen := ow_len h
  obtain ⟨a, cap, rfl⟩ := ow_shape h
  obtain ⟨n, hnl⟩ : ∃ n, n = l.length := ⟨_, rfl⟩
  have hS := Lib.hid (MState.start (M := strsM) (k0 := k0) h)
  rw [← hnl] at hlen hS ⊢
  have Hn := Lib.hid hnl; clear hnl h
  have Hnd := Lib.hid hn; clear hn
  go_enter Tryz.func36, Tryz.ntmps36
  go_wp2
  go_loopw [1, 5] (fun k i wr => ∃ j : Nat, ∃ q : Int, j ≤ n ∧ i = .int .i64 j ∧ k = .int .i64 q ∧ Hid (q = k0 + cntL strsM (l.take j)) ∧ MState strsE 50 strsM l fp (.slice a n cap) k0 w wr j) (fun _ i _ => n - (intOf i).toNat)
  case atStart => exact ⟨0, k0, by omega, rfl, rfl, Lib.hid (by simp [cntL]), hS.out⟩
  case round =>
    obtain ⟨j, q, hj, rfl, rfl, HQ, HS⟩ := hrel
    by_cases hlt : j < n
    · obtain ⟨x, hx⟩ : ∃ x, l[j]? = some x := ⟨_, get_some default (by rw [← Hn.out]; exact hlt)⟩
      obtain ⟨g, cap', vk, f, hv, c1, ho, hf, hstep⟩ := HS.elem rfl Hnd.out hx
      simp only [Value.slice.injEq] at hv
      obtain ⟨rfl, -, rfl⟩ := hv
      have hc : cntL strsM (l.take (j + 1)) = cntL strsM (l.take j) + strsM.cnt x := cntL_take strsM l j x hx
      have hc2 := cntL_take_le strsM l (j + 1)
      have hq0 : 0 < q := by have := HQ.out; omega
      have hq1 : q + strsM.cnt x ≤ 4611686018427387904 := by have := HQ.out; omega
      have HC : Hid (q + (strsM.cnt x : Int) = k0 + cntL strsM (l.take (j + 1))) := Lib.hid (by rw [hc, HQ.out]; omega)
      have HST := Lib.hid hstep; clear hstep hx HS hc hc2
      have HF := Lib.hid hf; clear hf
      go_wp2_with fail
      refine (markStringS_any _ x f q _ ho hq0 hq1).mono ?_
      rintro e w1 ⟨x', rfl, ho', hm', hc', hb'⟩
      have HS2 := HST.out w1 x' hb' ho' (by rw [← HQ.out]; exact hm') hc'
      clear ho ho' hm' hc' hb'
      generalize q + (strsM.cnt x : Int) = q2 at *
      go_wp2
      go_roundw
      case rel => exact ⟨j + 1, q2, by omega, by go_num, rfl, HC, HS2⟩
      case measure => simp [intOf]; omega
    · obtain rfl : j = n := by omega
      have HQ2 : Hid (q = k0 + cntL strsM l) := Lib.hid (by have := HQ.out; rwa [Hn.out, List.take_length] at this)
      rw [Hn.out] at HS
      go_wp2
      go_ret
      have := HS.done
      rw [← HQ2.out] at this
      rw [Hn.out]
      exact this

set_option maxHeartbeats 400000 in
theorem heldStringSS_any (v : Value) (l : List (List ByteArray)) (B : Nat) (k0 : Int) (w : World) (hB0 : B ≤ w.heap.size) (h : strssE.rd w B [v] l) (hm : heldL strsM l k0) (h0 : 0 < k0) (h1 : k0 + cntL strsM l ≤ 4611686018427387904) :
    Calls Tryz.prog 38 #[v, .int .i64 k0] w (Gives (.int .i64 (k0 + cntL strsM l)) w) := by
  obtain ⟨a, cap, rfl, a1, a2, -, a4⟩ := rd_slice1 rfl h
  clear h
  obtain ⟨n, hn⟩ : ∃ n, n = l.length := ⟨_, rfl⟩
  rw [← hn] at a1 a4 ⊢
  have Hn := Lib.hid hn; clear hn
  have H4 := Lib.hid a4; clear a4
  have Hm := Lib.hid hm; clear hm
  go_enter Tryz.func38, Tryz.ntmps38
  go_wp2
  go_loopw [1, 5] (fun k i wr => ∃ j : Nat, ∃ q : Int, j ≤ n ∧ i = .int .i64 j ∧ k = .int .i64 q ∧ Hid (q = k0 + cntL strsM (l.take j)) ∧ Below w.heap.size w wr) (fun _ i _ => n - (intOf i).toNat)
  case atStart => exact ⟨0, k0, by omega, rfl, rfl, Lib.hid (by simp [cntL]), Below.refl _ _⟩
  case round =>
    obtain ⟨j, q, hj, rfl, rfl, HQ, hB⟩ := hrel
    by_cases hlt : j < n
    · obtain ⟨b, o, vk, rfl, -, hc, hr⟩ := H4.out j hlt
      have c1 := (hB.cell (World.block_lt_of_cell? w _ hc)).trans hc
      have HR := Lib.hid (strsE.rd_of (hB.mono hB0) hr)
      have HX := Lib.hid (get_some default (l := l) (k := j) (by rw [← Hn.out]; exact hlt))
      clear hc hr
      generalize l[j]?.getD default = x at *
      have hc : cntL strsM (l.take (j + 1)) = cntL strsM (l.take j) + strsM.cnt x := cntL_take strsM l j x HX.out
      have hc2 := cntL_take_le strsM l (j + 1)
      have hq0 : 0 < q := by have := HQ.out; omega
      have hq1 : q + strsM.cnt x ≤ 4611686018427387904 := by have := HQ.out; omega
      have HC : Hid (q + (strsM.cnt x : Int) = k0 + cntL strsM (l.take (j + 1))) := Lib.hid (by rw [hc, HQ.out]; omega)
      have HMx := Lib.hid (show strsM.held x q by rw [HQ.out]; exact heldL_take strsM l j k0 x HX.out Hm.out)
      clear hc hc2
      go_wp2_with fail
      refine (heldStringS_any _ x B q _ HR.out HMx.out hq0 hq1).mono ?_
      rintro e w1 ⟨rfl, hbl⟩
      have B1 := hB.trans (hbl.mono hB.size)
      have ht : ¬ q + (strsM.cnt x : Int) < 0 := by omega
      clear hbl hB
      generalize q + (strsM.cnt x : Int) = q2 at *
      go_wp2
      go_roundw
      case rel => exact ⟨j + 1, q2, by omega, by go_num, rfl, HC, B1⟩
      case measure => simp [intOf]; omega
    · obtain rfl : j = n := by omega
      have HQ2 : Hid (q = k0 + cntL strsM l) := Lib.hid (by have := HQ.out; rwa [Hn.out, List.take_length] at this)
      go_wp2
      go_ret
      exact ⟨by rw [← HQ2.out]; rfl, hB⟩

end Go.Proofs.YtfamhnogpcmbmaaGreatDoor

/-
  The contracts of the laws' own markWriter and heldWriter.
-/
namespace Go.Proofs.YtfamhnogpcmbmaaGreatDoor
open Go.RowKit

def writM : Mk Writer := ⟨fun r k => turnM.held r.turner k ∧ (listM strsM).held r.out (k + (turnM.cnt r.turner : Int)), fun r => turnM.cnt r.turner + (listM strsM).cnt r.out⟩

set_option maxHeartbeats 1000000 in
theorem markWriter_any (cs : List Value) (r : Writer) (fp : List Nat) (k0 : Int) (w : World) (h : writE.ow w cs r fp) (hn : fp.Nodup) (h0 : 0 < k0) (h1 : k0 + writM.cnt r ≤ 4611686018427387904) :
    Calls Tryz.prog 14 #[.agg cs.toArray, .int .i64 k0] w (Marks writE writM cs r fp k0 w) := by
  obtain ⟨c1, c2, f1, f2, rfl, rfl, ho1, ho2⟩ := h
  have ht := ho1
  obtain ⟨v2, gg, rfl, b0, b1, hh2, -⟩ := ow_Turner_inv ho1
  obtain ⟨sa2, sn2, sc2, rfl⟩ := rd_slice (movessE.rd_ow hh2)
  obtain ⟨v3, rfl⟩ := one_of (Enc.rd_len _ (Enc.rd_ow _ ho2))
  obtain ⟨sa3, sn3, sc3, rfl⟩ := rd_slice (strssE.rd_ow ho2)
  obtain ⟨n1, n2, n12⟩ := List.nodup_append.1 hn
  have d12 : ∀ b, b ∈ f2 → b ∉ f1 := fun b hb hg => n12 b hg b hb rfl
  have hlt1 := turnE.ow_lt ht
  have hlt2 := strssE.ow_lt ho2
  have hc1 : k0 + (turnM.cnt r.turner : Int) + ((listM strsM).cnt r.out : Int) ≤ 4611686018427387904 := by
    have : writM.cnt r = turnM.cnt r.turner + (listM strsM).cnt r.out := rfl
    rw [this] at h1; omega
  have HC := Lib.hid hc1
  have HT := Lib.hid ht; have HO := Lib.hid ho2; have N1 := Lib.hid n1; have N2 := Lib.hid n2; have D12 := Lib.hid d12; have L1 := Lib.hid hlt1; have L2 := Lib.hid hlt2
  clear hc1 ht ho1 ho2 hh2 n1 n2 n12 d12 hlt1 hlt2 hn h1
  go_enter Tryz.func14, Tryz.ntmps14
  go_wp2_with fail
  generalize hW : w.alloc _ = w0
  obtain ⟨A0, hB⟩ := blk1 hW
  clear hW
  have BT := Lib.hid (But.of_below (fp := f1 ++ f2) hB)
  have O1 := Lib.hid (turnE.ow_of hB HT.out)
  have O2 := Lib.hid (strssE.ow_of hB HO.out)
  clear hB
  have HA := Lib.hid A0; clear A0
  refine (markTurner_any _ r.turner f1 k0 _ O1.out N1.out (by omega) (by have := HC.out; omega)).mono ?_
  rintro e w1 ⟨x1, rfl, p1, m1, k1, bt⟩
  have BT := Lib.hid (BT.out.trans (bt.mono (fun b hb => List.mem_append_left _ hb)))
  have A1 := HA.out.but bt (fun hb => by have := L1.out _ hb; omega)
  have O2 := Lib.hid (strssE.ow_but O2.out bt D12.out)
  have P1 := Lib.hid p1; have M1 := Lib.hid m1; have K1 := Lib.hid k1
  clear bt p1 m1 k1
  obtain ⟨q0, hq⟩ : ∃ q : Int, q = k0 + (turnM.cnt r.turner : Int) := ⟨_, rfl⟩
  rw [← hq]
  have g0 : 0 < q0 := by omega
  have HQ0 := Lib.hid hq; clear hq
  have a3 := A1.cell 3 rfl
  go_wp2_with fail
  refine (markStringSS_any _ r.out f2 q0 _ O2.out N2.out g0 (show q0 + ((listM strsM).cnt r.out : Int) ≤ 4611686018427387904 from by have := HC.out; have := HQ0.out; omega)).mono ?_
  rintro e w2 ⟨x2, rfl, p2, m2, k2, bt⟩
  have BT := Lib.hid (BT.out.trans (bt.mono (fun b hb => List.mem_append_right _ hb)))
  have P1 := Lib.hid (turnE.ow_but P1.out bt (fun b hb hf => D12.out b hf hb))
  have P2 := Lib.hid p2; have M2 := Lib.hid m2; have K2 := Lib.hid k2
  clear bt p2 m2 k2 a3 A1
  obtain ⟨q1, hq⟩ : ∃ q : Int, q = q0 + ((listM strsM).cnt r.out : Int) := ⟨_, rfl⟩
  rw [← hq]
  have HQ1 := Lib.hid hq; clear hq
  go_wp2
  go_ret
  have hw : writM.cnt r = turnM.cnt r.turner + (listM strsM).cnt r.out := rfl
  refine ⟨⟨x1, x2⟩, ret_k_ret (by rw [hw]; have := HQ0.out; have := HQ1.out; omega), ⟨_, _, f1, f2, rfl, rfl, P1.out, P2.out⟩, ⟨M1.out, ?_⟩, ?_, BT.out⟩
  · show (listM strsM).held x2 (k0 + (turnM.cnt x1 : Int))
    rw [K1.out, ← HQ0.out]
    exact M2.out
  · show turnM.cnt x1 + (listM strsM).cnt x2 = turnM.cnt r.turner + (listM strsM).cnt r.out
    rw [K1.out, K2.out]

set_option maxHeartbeats 1000000 in
theorem heldWriter_any (cs : List Value) (r : Writer) (B : Nat) (k0 : Int) (w : World) (hB0 : B ≤ w.heap.size) (h : writE.rd w B cs r) (hm : writM.held r k0) (h0 : 0 < k0) (h1 : k0 + writM.cnt r ≤ 4611686018427387904) :
    Calls Tryz.prog 15 #[.agg cs.toArray, .int .i64 k0] w (Gives (.int .i64 (k0 + writM.cnt r)) w) := by
  obtain ⟨v2, v3, rfl, t2, h3⟩ := rd_Writer h
  obtain ⟨v2', he, -, -, y2⟩ := rd_Turner t2
  obtain rfl : v2 = v2' := by simpa using he
  obtain ⟨sa2, sn2, sc2, rfl⟩ := rd_slice y2
  obtain ⟨sa3, sn3, sc3, rfl⟩ := rd_slice h3
  have hc1 : k0 + (turnM.cnt r.turner : Int) + ((listM strsM).cnt r.out : Int) ≤ 4611686018427387904 := by
    have : writM.cnt r = turnM.cnt r.turner + (listM strsM).cnt r.out := rfl
    rw [this] at h1; omega
  have HC := Lib.hid hc1
  have T2 := Lib.hid t2; have H3 := Lib.hid h3; have M1 := Lib.hid hm.1; have M2 := Lib.hid hm.2
  clear hc1 t2 h3 y2 he h hm h1
  go_enter Tryz.func15, Tryz.ntmps15
  go_wp2_with fail
  generalize hW : w.alloc _ = w0
  obtain ⟨A0, hB⟩ := blk1 hW
  clear hW
  refine (heldTurner_any _ r.turner B k0 _ (Nat.le_trans hB0 hB.size) (turnE.rd_of (hB.mono hB0) T2.out) M1.out (by omega) (by have := HC.out; omega)).mono ?_
  rintro e w1 ⟨rfl, b⟩
  have A1 := A0.of b A0.lt
  have hB1 := hB.trans (b.mono hB.size)
  clear b A0 hB
  obtain ⟨q0, hq⟩ : ∃ q : Int, q = k0 + (turnM.cnt r.turner : Int) := ⟨_, rfl⟩
  rw [← hq] at M2 ⊢
  have g0 : 0 < q0 := by omega
  have t0 : ¬ q0 < 0 := by omega
  have HQ0 := Lib.hid hq; clear hq
  have a3 := A1.cell 3 rfl
  go_wp2_with fail
  refine (heldStringSS_any _ r.out B q0 _ (Nat.le_trans hB0 hB1.size) (strssE.rd_of (hB1.mono hB0) H3.out) M2.out g0 (show q0 + ((listM strsM).cnt r.out : Int) ≤ 4611686018427387904 from by have := HC.out; have := HQ0.out; omega)).mono ?_
  rintro e w2 ⟨he, b⟩
  have he : e = .returned (.int .i64 (q0 + ((listM strsM).cnt r.out : Int))) := he
  have hB2 := hB1.trans (b.mono hB1.size)
  clear b a3 A1 hB1
  obtain ⟨q1, hq⟩ : ∃ q : Int, q = q0 + ((listM strsM).cnt r.out : Int) := ⟨_, rfl⟩
  rw [← hq] at he
  subst he
  have t1 : ¬ q1 < 0 := by omega
  have HQ1 := Lib.hid hq; clear hq
  go_wp2
  go_ret
  have hw : writM.cnt r = turnM.cnt r.turner + (listM strsM).cnt r.out := rfl
  exact ⟨ret_k_ret (by rw [hw]; have := HQ0.out; have := HQ1.out; omega), hB2⟩

end Go.Proofs.YtfamhnogpcmbmaaGreatDoor

/-
  What ThenTurner and JoinWriters answer, in plain words (written by a program of this claim's own, gen_join.py).
-/
namespace Go.Proofs.YtfamhnogpcmbmaaGreatDoor
open Go.RowKit

def raisedM (k : Int) (m : Move) : Move := if m.to < 0 then m else ⟨m.to + k, m.dir⟩
def homeM (home : Int) (m : Move) : Move := if m.to = -1 then ⟨home, -1⟩ else m
/-- The first move of the second turner, as the joined one makes it. -/
def beginM (t u : Turner) : Move := raisedM t.moves.length ((u.moves[u.start.toNat]?.getD default)[u.letters.toNat]?.getD default)
def thenRow (c : Nat) (home : Int) (b : Move) (row : List Move) : List Move := if (row[c]?.getD default).to = -1 then (row.map (homeM home)).set c b else row.map (homeM home)
def homeOf (t u : Turner) : Int := (t.moves.length : Int) + u.moves.length
def thenMs (t u : Turner) : List (List Move) :=
  t.moves.map (thenRow t.letters.toNat (homeOf t u) (beginM t u)) ++ u.moves.map (List.map (raisedM t.moves.length)) ++ [(List.replicate (t.letters.toNat + 2) (⟨homeOf t u, -1⟩ : Move)).set t.letters.toNat (beginM t u)]
def thenT (t u : Turner) : Turner := ⟨t.letters, t.start, thenMs t u⟩
def thenTurner (t u : Turner) : Turner × Int :=
  if validTurn t && validTurn u then (if t.letters = u.letters then (if validTurn (thenT t u) then (thenT t u, 0) else (default, 3)) else (default, 2)) else (default, 1)

/-- What is written at the second writer's first move. -/
def beginO (v : Writer) : ByteArray := (v.out[v.turner.start.toNat]?.getD default)[v.turner.letters.toNat]?.getD ByteArray.empty
def joinRow (c : Nat) (b : ByteArray) (ms : List Move) (row : List ByteArray) : List ByteArray := if (ms[c]?.getD default).to = -1 then row.set c ((row[c]?.getD ByteArray.empty) ++ b) else row
def joinOut (w v : Writer) : List (List ByteArray) :=
  (List.range w.out.length).map (fun s => joinRow w.turner.letters.toNat (beginO v) (w.turner.moves[s]?.getD default) (w.out[s]?.getD default)) ++ v.out ++ [(List.replicate (w.turner.letters.toNat + 2) (⟨#[]⟩ : ByteArray)).set w.turner.letters.toNat (beginO v)]
def joinW (w v : Writer) : Writer := ⟨thenT w.turner v.turner, joinOut w v⟩
def joinWriters (w v : Writer) : Writer × Int :=
  if writerOk w && writerOk v then (if (thenTurner w.turner v.turner).2 = 0 then (if writerOk (joinW w v) then (joinW w v, 0) else (default, 3)) else (default, (thenTurner w.turner v.turner).2)) else (default, 1)

theorem thenTurner_fst {t u : Turner} (h : (thenTurner t u).2 = 0) : (thenTurner t u).1 = thenT t u := by
  unfold thenTurner at h ⊢
  split
  · rename_i h1
    rw [if_pos h1] at h
    split
    · rename_i h2
      rw [if_pos h2] at h
      split
      · rfl
      · rename_i h3
        rw [if_neg h3] at h
        cases h
    · rename_i h2
      rw [if_neg h2] at h
      cases h
  · rename_i h1
    rw [if_neg h1] at h
    cases h

theorem cnt_joinWriters (w v : Writer) : writM.cnt (joinWriters w v).1 ≤ 4611686018427387000 := by
  unfold joinWriters
  split
  · split
    · split
      · rename_i h
        have K := writOk_of h
        have h1 := sum_map_le movesM.cnt 10 (joinW w v).turner.moves (fun x hx => by have := K.t.len hx; show 2 * x.length ≤ 10; omega)
        have h2 := sum_map_le strsM.cnt 5 (joinW w v).out (fun x hx => by have := K.len hx; show x.length ≤ 5; omega)
        have h3 := K.t.n12
        have h4 := K.n
        show ((joinW w v).turner.moves.map movesM.cnt).sum + ((joinW w v).out.map strsM.cnt).sum ≤ _
        omega
      · decide
    · show writM.cnt default ≤ _
      decide
  · decide

end Go.Proofs.YtfamhnogpcmbmaaGreatDoor

/-
  What a call that hands back a turner has at its end.
-/
namespace Go.Proofs.YtfamhnogpcmbmaaGreatDoor
open Go.RowKit

theorem ow_Turner_zero (w : World) : turnE.ow w [.int .i64 0, .int .i64 0, .slice none 0 0] default [] :=
  ow_Turner (r := default) ⟨by decide, by decide⟩ ⟨by decide, by decide⟩ (ow_nil _ _ _)

theorem turn_done {w0 w : World} {ps : List Ob} {v2 : Value} {x : Turner} {c : Int} (S : Star w0 w (oE intE [.int .i64 x.letters] x.letters :: oE intE [.int .i64 x.start] x.start :: oE movessE [v2] x.moves :: ps)) :
    MakesC turnE (x, c) w0 (.returned (.tuple #[.agg #[.int .i64 x.letters, .int .i64 x.start, v2], .int .i64 c])) w := by
  have S1 := S.sel [1, 2, 0] (by decide) (by simp)
  have S1 : Star w0 w [oE intE [.int .i64 x.start] x.start, oE movessE [v2] x.moves, oE intE [.int .i64 x.letters] x.letters] := S1
  have S2 := S1.pair.sel [1, 0]
  have S2 : Star w0 w [oE intE [.int .i64 x.letters] x.letters, oE (pairE intE movessE) [.int .i64 x.start, v2] (x.start, x.moves)] := S2
  exact (S2.pair.via (F := fun r : Turner => (r.letters, r.start, r.moves)) x rfl).done (x := (x, c))

theorem bdm1 : (-9223372036854775808 : Int) ≤ -1 ∧ (-1 : Int) ≤ 9223372036854775807 := by decide

theorem ow_move {x y : Int} (h : -9223372036854775808 ≤ x ∧ x ≤ 9223372036854775807) (k : -9223372036854775808 ≤ y ∧ y ≤ 9223372036854775807) (w : World) : moveE.ow w [Value.int .i64 x, Value.int .i64 y] ⟨x, y⟩ [] :=
  ⟨[_], [_], [], [], rfl, rfl, ⟨⟨rfl, h⟩, rfl⟩, ⟨⟨rfl, k⟩, rfl⟩⟩

end Go.Proofs.YtfamhnogpcmbmaaGreatDoor

/-
  Plain lemmas: append of a whole slice of one's own; blocks of several cells an element; copy of such blocks. No program function is named here.
-/
namespace Go.Proofs.YtfamhnogpcmbmaaGreatDoor
open Go.RowKit

theorem srcS_own {α : Type} {E : Enc α} {ty : TypeId} {w : World} {v : Value} {l : List α} {f : List Nat} (h1 : ∀ w x cs f, E.ow w cs x f → ∀ u, u ∈ cs → u.oneCell' = true) (o : (sliceE E ty).ow w [v] l f) :
    ∃ css fys, OwAll E w l css fys ∧ SrcS w E.size v l.length css.flatten ∧ f = v.ownBlock.toList ++ fys.flatten := by
  obtain ⟨v', xss, fps, hv, a1, a2, rfl⟩ := o
  obtain rfl : v = v' := by simpa using hv
  have hone : ∀ u, u ∈ xss.flatten → u.oneCell' = true := by
    clear a2 hv
    induction a1 with
    | nil => intro u hu; simp at hu
    | cons b1 b2 ih =>
      intro u hu
      rw [List.flatten_cons] at hu
      rcases List.mem_append.1 hu with h | h
      · exact h1 _ _ _ _ b1 u h
      · exact ih u h
  refine ⟨xss, fps, a1, ?_, rfl⟩
  have hfl := a1.flat
  obtain ⟨-, a2⟩ := a2
  rcases a2 with ⟨rfl, hn⟩ | ⟨g, cap, cur, rfl, hg, hh, hc, hm, hs, ht⟩
  · refine .inl ⟨0, rfl, hn, ?_⟩
    rw [hn, Nat.zero_mul] at hfl
    exact List.eq_nil_of_length_eq_zero hfl
  · refine .inr ⟨⟨g, 0, none⟩, cap, rfl, hfl, fun j u hu => ?_, hone⟩
    rw [← ht, List.getElem?_take] at hu
    split at hu
    · rw [Addr.add_lit]
      simpa [World.cell?, hh] using hu
    · cases hu

theorem one_ints_ow : ∀ (w : World) (x : List Int) (cs : List Value) (f : List Nat), intsE.ow w cs x f → ∀ u, u ∈ cs → u.oneCell' = true := by
  intro w x cs f h u hu
  obtain ⟨v, rfl⟩ := one_of (Enc.rd_len _ (Enc.rd_ow _ h))
  obtain ⟨sa, sn, sc, rfl⟩ := ow_slice h
  have : u = .slice sa sn sc := by simpa using hu
  subst this; rfl

theorem flatMap_len' {α : Type} (c : α → List Value) (s : Nat) (l : List α) (hc : ∀ x, x ∈ l → (c x).length = s) : (l.flatMap c).length = l.length * s := by
  induction l with
  | nil => simp
  | cons a l ih => rw [List.flatMap_cons, List.length_append, ih (fun x hx => hc x (by simp [hx])), hc a (by simp), List.length_cons, Nat.succ_mul]; omega

section
variable {w0 w w' : World} {ps : List Ob}
/-- A block that a copy has written into. -/
theorem Star.row {b : Nat} {cs : List Value} {ty : TypeId} (S : Star w0 w (oB b cs ty :: ps)) (cs' : List Value) : Star w0 (w.setRow b cs'.toArray) (oB b cs' ty :: ps) :=
  S.upd fun f hf _ hl => by
    obtain ⟨hb, rfl⟩ := hf
    refine ⟨[b], ⟨setRow_heap w b _ _ ty _ hb, rfl⟩, by simp, fun b hb => .inl hb, fun b hb => by simpa [World.setRow] using hl b hb, ⟨rfl, rfl, rfl, by simp [World.setRow], fun k hk hn => ?_⟩⟩
    exact setRow_other w b k cs'.toArray (fun e => hn (by simp [e]))

/-- A slice of one element that has just been made itself. -/
theorem Star.lit1 {α : Type} {E : Enc α} {ty : TypeId} {g : Nat} {v : Value} {y : α} (S : Star w0 w (oB g [v] ty :: oE E [v] y :: ps)) (hE : E.size = 1) : Star w0 w (oE (sliceE E ty) [.slice (some ⟨g, 0, none⟩) 1 1] [y] :: ps) :=
  S.join fun f h hf hh => by
    obtain ⟨hb, rfl⟩ := hf
    refine ⟨_, [[v]], [h], rfl, OwAll.one hh, ?_, by simp [Value.ownBlock]⟩
    exact ⟨by simp [hE], .inr ⟨g, 1, #[v], rfl, Nat.zero_le _, hb, by simp, by simp [maxLen], by simp [hE], by simp [hE]⟩⟩

theorem Star.slcN (S : Star w0 w ps) (n : Nat) {α : Type} {E : Enc α} {t : TypeId} {v : Value} {a : List α} (h : ps[n]? = some (oE (sliceE E t) [v] a)) : ∃ sa sc, v = .slice sa a.length sc := by
  obtain ⟨f, o⟩ := S.own n h
  obtain ⟨sa, sc, hv, -⟩ := Enc.rd_ow _ o
  exact ⟨sa, sc, by simpa using hv⟩

/-- What has just been written into a block, as a slice whose elements are several cells. -/
theorem Star.lits {α : Type} {E : Enc α} {ty : TypeId} {g : Nat} {vs : List Value} (S : Star w0 w (oB g vs ty :: ps)) (l : List α) (c : α → List Value) (n : Nat) (hn : l.length = n) (hv : vs = l.flatMap c) (hf : ∀ x, x ∈ l → E.ow w (c x) x []) (hl : n ≤ maxLen) :
    Star w0 w (oE (sliceE E ty) [.slice (some ⟨g, 0, none⟩) n n] l :: ps) :=
  S.upd fun q hq _ hlt => by
    subst hn hv
    obtain ⟨hb, rfl⟩ := hq
    have key := flatMap_len' c E.size l (fun x hx => Enc.rd_len _ (Enc.rd_ow _ (hf x hx)))
    refine ⟨[g], ?_, by simp, fun b hb => .inl hb, hlt, But.refl _ _⟩
    exact ow_flats (base := 0) c hf ⟨by rw [key], .inr ⟨g, l.length, (l.flatMap c).toArray, rfl, Nat.zero_le _, hb, Nat.le_refl _, hl, by simp [key], by rw [List.take_of_length_le] <;> simp [key]⟩⟩
end

theorem run_copy_wide {P : Program} (w : World) (dT sT ty elem : TypeId) (g o dLen dCap : Nat) (a : Addr) (sLen sCap size : Nat) (cur : Array Value) (t : TypeId) (cs : List Value)
    (hu : P.underlying dT = some (.slice elem)) (hs : (P.info? elem).map (·.size) = some size)
    (hg : w.heap[g]? = some (.cells cur t (0, 0))) (hn : cs.length = Nat.min sLen dLen * size)
    (hsrc : ∀ j v, cs[j]? = some v → w.cell? (a.add j) = some v) (hfit : o + cs.length ≤ cur.size) (h1 : ∀ v ∈ cs, v.oneCell' = true) :
    (Builtin.copy_ #[dT, sT] ty #[.slice (some ⟨g, o, none⟩) dLen dCap, .slice (some a) sLen sCap]).run P w =
      .ok (goInt (Nat.min sLen dLen)) (w.setRow g (cur.toList.take o ++ cs ++ cur.toList.drop (o + cs.length)).toArray) := by
  have hl := run_loadCells_list (P := P) w a cs hsrc
  have hst := run_storeCells_at P g o t cs 0 cur w hg (by simpa using hfit) h1
  cases hq : P.info? elem with
  | none => simp [hq] at hs
  | some i =>
    have hi : i.size = size := by simpa [hq] using hs
    simp [Builtin.copy_, run_underlying hu, Builtin.lenOf, Builtin.firstCells, sizeOf, typeInfo, hq, hi, ← hn, hl, hst]

theorem wpList_copy_wide {P : Program} {w : World} {ops : Array Oper} {rest : List Oper} {o : Oper} {a : Act} {Q : Exit → Act → World → Prop} (hgd : o.guard = none) (d s : Operand) (dT sT : TypeId)
    (ho : o.op = .call { callee := .builtin .copy, args := #[d, s], argTypes := #[dT, sT] }) (elem : TypeId) (size : Nat) (hu : P.underlying dT = some (.slice elem)) (hsz : (P.info? elem).map (·.size) = some size)
    (g off dLen dCap : Nat) (ad : Addr) (sLen sCap : Nat) (hd : a.eval d = .slice (some ⟨g, off, none⟩) dLen dCap) (hs : a.eval s = .slice (some ad) sLen sCap)
    (cur : List Value) (t : TypeId) (hg : Blk w g cur t) (cs : List Value) (m : Nat) (hm : m = Nat.min sLen dLen) (hn : cs.length = m * size)
    (hsrc : ∀ j v, cs[j]? = some v → w.cell? (ad.add j) = some v) (hfit : off + cs.length ≤ cur.length) (h1 : ∀ v ∈ cs, v.oneCell' = true) (new : List Value) (hnew : cur.take off ++ cs ++ cur.drop (off + cs.length) = new) (B : Nat) (w0 : World) (hb : Below B w0 w) (hBg : B ≤ g)
    (h : ∀ w', Hid (Blk w' g new t) → Below B w0 w' → wpList P ops Q rest (a.put o.dst (.int .i64 (m : Int))) w') : wpList P ops Q (o :: rest) a w := by
  subst hm hnew
  refine wpList_plain hgd fun K hK => ?_
  have hrun := run_copy_wide (P := P) w dT sT o.type elem g off dLen dCap ad sLen sCap size cur.toArray t cs hu hsz hg hn hsrc (by simpa using hfit) h1
  have h := h _ (show _ = _ from setRow_heap w g _ (cur.take off ++ cs ++ cur.drop (off + cs.length)).toArray t _ hg) (below_setRow hb hBg _)
  unfold Oper.wp
  simp [execOp, ho, resolve, invoke, builtin, hd, hs, hrun, Result.andThen]
  simp only [List.append_assoc] at h
  exact hK _ _ h

theorem step_copy_wide {P : Program} {ops : Array Oper} {o : Oper} {a : Act} {w : World} {K : Act → World → Prop} {Q : Exit → Act → World → Prop} {E : Prop} (hgd : o.guard = none) (d s : Operand) (dT sT : TypeId)
    (ho : o.op = .call { callee := .builtin .copy, args := #[d, s], argTypes := #[dT, sT] }) (elem : TypeId) (size : Nat) (hu : P.underlying dT = some (.slice elem)) (hsz : (P.info? elem).map (·.size) = some size)
    (g off dLen dCap : Nat) (ad : Addr) (sLen sCap : Nat) (hd : a.eval d = .slice (some ⟨g, off, none⟩) dLen dCap) (hs : a.eval s = .slice (some ad) sLen sCap)
    (cur : List Value) (t : TypeId) (hg : Blk w g cur t) (cs : List Value) (m : Nat) (hm : m = Nat.min sLen dLen) (hn : cs.length = m * size)
    (hsrc : ∀ j v, cs[j]? = some v → w.cell? (ad.add j) = some v) (hfit : off + cs.length ≤ cur.length) (h1 : ∀ v ∈ cs, v.oneCell' = true) (new : List Value) (hnew : cur.take off ++ cs ++ cur.drop (off + cs.length) = new) (B : Nat) (w0 : World) (hb : Below B w0 w) (hBg : B ≤ g)
    (h : ∀ w', Hid (Blk w' g new t) → Below B w0 w' → K (a.put o.dst (.int .i64 (m : Int))) w') :
    if Region.wanted o (yielded ops a.tmps) = true then Oper.wp P o a w K Q else E := by
  have hw : Region.wanted o (yielded ops a.tmps) = true := by simp [Region.wanted, hgd]
  rw [if_pos hw]
  subst hm hnew
  have hrun := run_copy_wide (P := P) w dT sT o.type elem g off dLen dCap ad sLen sCap size cur.toArray t cs hu hsz hg hn hsrc (by simpa using hfit) h1
  have h := h _ (show _ = _ from setRow_heap w g _ (cur.take off ++ cs ++ cur.drop (off + cs.length)).toArray t _ hg) (below_setRow hb hBg _)
  unfold Oper.wp
  simp [execOp, ho, resolve, invoke, builtin, hd, hs, hrun, Result.andThen]
  simp only [List.append_assoc] at h
  exact h

theorem src_cells {w : World} {b c m size : Nat} {news : List Value} (hl : news.length = m * size) (hc : ∀ j u, news[j]? = some u → w.cell? ⟨b, j, none⟩ = some u) (h1 : ∀ u, u ∈ news → u.oneCell' = true) : SrcS w size (.slice (some ⟨b, 0, none⟩) m c) m news :=
  .inr ⟨⟨b, 0, none⟩, c, rfl, hl, fun j u hu => by rw [Addr.add_lit]; simpa using hc j u hu, h1⟩

theorem one_ints (l : List Int) : ∀ u, u ∈ l.map (Value.int .i64) → u.oneCell' = true := by
  intro u hu
  obtain ⟨x, _, rfl⟩ := List.mem_map.1 hu
  rfl

theorem all2 {α : Type} {E : Enc α} {w : World} {x y : α} {cx cy : List Value} (h : E.ow w cx x []) (k : E.ow w cy y []) : OwAll E w [x, y] [cx, cy] [[], []] := .cons h (.cons k .nil)

theorem below_cell_alloc (w : World) (o : Obj) {a : Addr} (h : a.block < w.heap.size) : (w.alloc o).cell? a = w.cell? a := ((Below.refl w.heap.size w).alloc (Nat.le_refl _) o).cell h

theorem cell_al {w : World} {a : Addr} {v : Value} (h : w.cell? a = some v) (o : Obj) : (w.alloc o).cell? a = some v := by rw [below_cell_alloc w o (World.block_lt_of_cell? w _ h)]; exact h

theorem Star.drew {w0 w : World} {ps : List Ob} (S : Star w0 w ps) : Star w0 w.drew ps := S.step (Below.refl _ _).drew

end Go.Proofs.YtfamhnogpcmbmaaGreatDoor

/-
  Aid for turners made by a change of each move (written by a program of this claim's own, gen_join.py).
-/
namespace Go.Proofs.YtfamhnogpcmbmaaGreatDoor
open Go.RowKit

theorem moveOk_bdj {m : Move} {n l k : Int} (h : moveOk m n l k = true) : (-2 ≤ m.to ∧ (m.to < n ∨ m.to < 0)) ∧ (-1 ≤ m.dir ∧ m.dir ≤ 1) := by
  unfold moveOk at h
  rw [Bool.or_eq_true] at h
  rcases h with h | h
  · unfold isStopB at h
    rw [Bool.and_eq_true, Bool.or_eq_true, beq_iff_eq, beq_iff_eq, beq_iff_eq] at h
    rcases h.1 with h1 | h1 <;> exact ⟨⟨by omega, .inr (by omega)⟩, by omega⟩
  · rw [Bool.and_eq_true, Bool.and_eq_true, Bool.and_eq_true] at h
    have h1 := within_true.1 h.1.1.1
    have h2 := within_true.1 h.1.1.2
    exact ⟨⟨by omega, .inl (by omega)⟩, by omega⟩

theorem turn_made {w0 w : World} {ps : List Ob} {v2 : Value} {x : Turner} (S : Star w0 w (oE intE [.int .i64 x.letters] x.letters :: oE intE [.int .i64 x.start] x.start :: oE movessE [v2] x.moves :: ps)) :
    MakesS turnE id x w0 (.returned (.agg #[.int .i64 x.letters, .int .i64 x.start, v2])) w := by
  obtain ⟨cs, fp, h1, h2, h3, h4, h5⟩ := turn_done (c := 0) S
  simp only [Ending.returned.injEq, Value.tuple.injEq, Array.mk.injEq, List.cons.injEq, and_true] at h1
  exact ⟨cs, fp, congrArg Ending.returned h1, h2, h3, h4, h5⟩

theorem Star.moves {w0 w : World} {ps : List Ob} {a b v : Value} {t : Turner} (S : Star w0 w (oE turnE [a, b, v] t :: ps)) : Star w0 w (oE movessE [v] t.moves :: ps) :=
  S.upd fun f hf nd hlt => ⟨f, by
    obtain ⟨c1, c2, f1, f2, e1, rfl, h1, h2⟩ := hf
    obtain ⟨d1, d2, g1, g2, rfl, rfl, h3, h4⟩ := h2
    obtain ⟨a', rfl⟩ := one_of (Enc.rd_len _ (Enc.rd_ow _ h1))
    obtain ⟨b', rfl⟩ := one_of (Enc.rd_len _ (Enc.rd_ow _ h3))
    simp only [List.cons_append, List.nil_append, List.cons.injEq] at e1
    obtain ⟨-, -, rfl⟩ := e1
    rw [h1.2, h3.2]
    exact h4, nd, fun b hb => .inl hb, hlt, But.refl _ _⟩

theorem bd_i64 {x : Int} {a b : Int} (h : a ≤ x ∧ x ≤ b) (ha : -9223372036854775808 ≤ a := by decide) (hb : b ≤ 9223372036854775807 := by decide) : -9223372036854775808 ≤ x ∧ x ≤ 9223372036854775807 := ⟨by omega, by omega⟩

theorem homeM_bd (k : Int) (hk : -1 ≤ k ∧ k ≤ 100) (m : Move) (ht : -2 ≤ m.to ∧ m.to ≤ 100) (hd : -1 ≤ m.dir ∧ m.dir ≤ 1) : (-9223372036854775808 ≤ (homeM k m).to ∧ (homeM k m).to ≤ 9223372036854775807) ∧ (-9223372036854775808 ≤ (homeM k m).dir ∧ (homeM k m).dir ≤ 9223372036854775807) := by
  unfold homeM
  split
  · exact ⟨⟨by show _ ≤ k; omega, by show k ≤ _; omega⟩, bdm1⟩
  · omega

theorem raisedM_bd (k : Int) (hk : -1 ≤ k ∧ k ≤ 100) (m : Move) (ht : -2 ≤ m.to ∧ m.to ≤ 100) (hd : -1 ≤ m.dir ∧ m.dir ≤ 1) : (-9223372036854775808 ≤ (raisedM k m).to ∧ (raisedM k m).to ≤ 9223372036854775807) ∧ (-9223372036854775808 ≤ (raisedM k m).dir ∧ (raisedM k m).dir ≤ 9223372036854775807) := by
  unfold raisedM
  split
  · omega
  · exact ⟨⟨by show _ ≤ m.to + k; omega, by show m.to + k ≤ _; omega⟩, ⟨by show _ ≤ m.dir; omega, by show m.dir ≤ _; omega⟩⟩

end Go.Proofs.YtfamhnogpcmbmaaGreatDoor
