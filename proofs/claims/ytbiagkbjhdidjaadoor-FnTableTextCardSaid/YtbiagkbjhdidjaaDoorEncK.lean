/-
  Plain definitions and lemmas: how lists, structs, numbers and strings lie in Go memory ('rd': they can be read; 'ow': they lie in blocks of their own). No program is named here.
-/
import Derived.WalkKit
import Derived.ProofKit
import Derived.Deep.Slices
namespace Go.Proofs.YtbiagkbjhdidjaaDoor
open Go.RowKit

/-- How values of a Lean type lie in cells. 'rd w B cs a': the cells 'cs' stand for 'a', all memory that they lead to lies in blocks below B. 'ow w cs a fp': they stand for 'a' and lead to the blocks 'fp', each of which is a row of its own. -/
structure Enc (α : Type) where
  size : Nat
  rd : World → Nat → List Value → α → Prop
  ow : World → List Value → α → List Nat → Prop
  rd_len : ∀ {w B cs a}, rd w B cs a → cs.length = size
  rd_below : ∀ {w w' : World} {B cs a}, (∀ p : Addr, p.block < B → w'.cell? p = w.cell? p) → rd w B cs a → rd w' B cs a
  rd_mono : ∀ {w B B' cs a}, B ≤ B' → rd w B cs a → rd w B' cs a
  ow_rd : ∀ {w cs a fp B}, (∀ b, b ∈ fp → b < B) → ow w cs a fp → rd w B cs a
  ow_lt : ∀ {w cs a fp}, ow w cs a fp → ∀ b, b ∈ fp → b < w.heap.size
  ow_frame : ∀ {w w' : World} {cs a fp}, (∀ b, b ∈ fp → w'.heap[b]? = w.heap[b]?) → ow w cs a fp → ow w' cs a fp

/-- A type of one cell whose values are written out. -/
def cellE {α : Type} (f : α → Value) : Enc α where
  size := 1
  rd _ _ cs a := cs = [f a]
  ow _ cs a fp := cs = [f a] ∧ fp = []
  rd_len h := by rw [h]; rfl
  rd_below _ h := h
  rd_mono _ h := h
  ow_rd _ h := h.1
  ow_lt h b hb := by rw [h.2] at hb; cases hb
  ow_frame _ h := h

def intE : Enc Int where
  size := 1
  rd _ _ cs a := cs = [.int .i64 a] ∧ -9223372036854775808 ≤ a ∧ a ≤ 9223372036854775807
  ow _ cs a fp := (cs = [.int .i64 a] ∧ -9223372036854775808 ≤ a ∧ a ≤ 9223372036854775807) ∧ fp = []
  rd_len h := by rw [h.1]; rfl
  rd_below _ h := h
  rd_mono _ h := h
  ow_rd _ h := h.1
  ow_lt h b hb := by rw [h.2] at hb; cases hb
  ow_frame _ h := h

def boolE : Enc Bool := cellE .bool

def strE : Enc ByteArray where
  size := 1
  rd _ _ cs a := cs = [.string a] ∧ a.size ≤ maxLen
  ow _ cs a fp := (cs = [.string a] ∧ a.size ≤ maxLen) ∧ fp = []
  rd_len h := by rw [h.1]; rfl
  rd_below _ h := h
  rd_mono _ h := h
  ow_rd _ h := h.1
  ow_lt h b hb := by rw [h.2] at hb; cases hb
  ow_frame _ h := h

/-- Two types side by side: a struct. -/
def pairE {α β : Type} (E : Enc α) (F : Enc β) : Enc (α × β) where
  size := E.size + F.size
  rd w B cs a := ∃ c1 c2, cs = c1 ++ c2 ∧ E.rd w B c1 a.1 ∧ F.rd w B c2 a.2
  ow w cs a fp := ∃ c1 c2 f1 f2, cs = c1 ++ c2 ∧ fp = f1 ++ f2 ∧ E.ow w c1 a.1 f1 ∧ F.ow w c2 a.2 f2
  rd_len := by rintro w B cs a ⟨c1, c2, rfl, h1, h2⟩; rw [List.length_append, E.rd_len h1, F.rd_len h2]
  rd_below := by rintro w w' B cs a h ⟨c1, c2, rfl, h1, h2⟩; exact ⟨c1, c2, rfl, E.rd_below h h1, F.rd_below h h2⟩
  rd_mono := by rintro w B B' cs a h ⟨c1, c2, rfl, h1, h2⟩; exact ⟨c1, c2, rfl, E.rd_mono h h1, F.rd_mono h h2⟩
  ow_rd := by
    rintro w cs a fp B hB ⟨c1, c2, f1, f2, rfl, rfl, h1, h2⟩
    exact ⟨c1, c2, rfl, E.ow_rd (fun b hb => hB b (by simp [hb])) h1, F.ow_rd (fun b hb => hB b (by simp [hb])) h2⟩
  ow_lt := by
    rintro w cs a fp ⟨c1, c2, f1, f2, rfl, rfl, h1, h2⟩ b hb
    rcases List.mem_append.1 hb with h | h
    · exact E.ow_lt h1 b h
    · exact F.ow_lt h2 b h
  ow_frame := by
    rintro w w' cs a fp h ⟨c1, c2, f1, f2, rfl, rfl, h1, h2⟩
    exact ⟨c1, c2, f1, f2, rfl, rfl, E.ow_frame (fun b hb => h b (by simp [hb])) h1, F.ow_frame (fun b hb => h b (by simp [hb])) h2⟩

/-- A type seen through a function: a Lean structure as a product. -/
def viaE {α β : Type} (E : Enc β) (f : α → β) : Enc α where
  size := E.size
  rd w B cs a := E.rd w B cs (f a)
  ow w cs a fp := E.ow w cs (f a) fp
  rd_len h := E.rd_len h
  rd_below h := E.rd_below h
  rd_mono h := E.rd_mono h
  ow_rd h := E.ow_rd h
  ow_lt h := E.ow_lt h
  ow_frame h := E.ow_frame h

/-- All elements of a list lie in their cells, each with blocks of its own. -/
inductive OwAll {α : Type} (E : Enc α) (w : World) : List α → List (List Value) → List (List Nat) → Prop
  | nil : OwAll E w [] [] []
  | cons {a l cs xss f fps} : E.ow w cs a f → OwAll E w l xss fps → OwAll E w (a :: l) (cs :: xss) (f :: fps)

theorem OwAll.frame {α : Type} {E : Enc α} {w w' : World} {l : List α} {xss : List (List Value)} {fps : List (List Nat)} (h : OwAll E w l xss fps) (hf : ∀ b, b ∈ fps.flatten → w'.heap[b]? = w.heap[b]?) : OwAll E w' l xss fps := by
  induction h with
  | nil => exact .nil
  | cons h1 h2 ih => exact .cons (E.ow_frame (fun b hb => hf b (by simp [hb])) h1) (ih (fun b hb => hf b (by rw [List.flatten_cons]; exact List.mem_append_right _ hb)))

theorem OwAll.lt {α : Type} {E : Enc α} {w : World} {l : List α} {xss : List (List Value)} {fps : List (List Nat)} (h : OwAll E w l xss fps) : ∀ b, b ∈ fps.flatten → b < w.heap.size := by
  induction h with
  | nil => intro b hb; simp at hb
  | cons h1 h2 ih =>
    intro b hb
    rw [List.flatten_cons] at hb
    rcases List.mem_append.1 hb with h | h
    · exact E.ow_lt h1 b h
    · exact ih b h

theorem OwAll.len {α : Type} {E : Enc α} {w : World} {l : List α} {xss : List (List Value)} {fps : List (List Nat)} (h : OwAll E w l xss fps) : xss.length = l.length ∧ fps.length = l.length := by
  induction h with
  | nil => exact ⟨rfl, rfl⟩
  | cons h1 h2 ih => simp [ih.1, ih.2]

theorem OwAll.append {α : Type} {E : Enc α} {w : World} {l : List α} {xss : List (List Value)} {fps : List (List Nat)} (h : OwAll E w l xss fps) {l' : List α} {xss' : List (List Value)} {fps' : List (List Nat)} (h' : OwAll E w l' xss' fps') :
    OwAll E w (l ++ l') (xss ++ xss') (fps ++ fps') := by
  induction h with
  | nil => exact h'
  | cons h1 h2 ih => exact .cons h1 ih

theorem OwAll.one {α : Type} {E : Enc α} {w : World} {a : α} {cs : List Value} {f : List Nat} (h : E.ow w cs a f) : OwAll E w [a] [cs] [f] := .cons h .nil

theorem OwAll.rdAt {α : Type} {E : Enc α} {w : World} {l : List α} {xss : List (List Value)} {fps : List (List Nat)} {B : Nat} (h : OwAll E w l xss fps) (hB : ∀ b, b ∈ fps.flatten → b < B) :
    ∀ i x, l[i]? = some x → ∃ xs f, xss[i]? = some xs ∧ fps[i]? = some f ∧ E.ow w xs x f ∧ E.rd w B xs x ∧ ∀ j v, xs[j]? = some v → xss.flatten[i * E.size + j]? = some v := by
  induction h with
  | nil => intro i x hx; simp at hx
  | @cons a l cs xss f fps h1 h2 ih =>
    intro i x hx
    have hl : cs.length = E.size := E.rd_len (E.ow_rd (B := B) (fun b hb => hB b (by simp [hb])) h1)
    cases i with
    | zero =>
      simp only [List.getElem?_cons_zero, Option.some.injEq] at hx
      subst hx
      refine ⟨cs, f, rfl, rfl, h1, E.ow_rd (fun b hb => hB b (by simp [hb])) h1, fun j v hv => ?_⟩
      rw [List.flatten_cons, Nat.zero_mul, Nat.zero_add, List.getElem?_append_left]
      · exact hv
      · exact (List.getElem?_eq_some_iff.1 hv).1
    | succ i =>
      simp only [List.getElem?_cons_succ] at hx
      obtain ⟨xs, g, e1, e2, e3, e4, e5⟩ := ih (fun b hb => hB b (by rw [List.flatten_cons]; exact List.mem_append_right _ hb)) i x hx
      refine ⟨xs, g, by simpa using e1, by simpa using e2, e3, e4, fun j v hv => ?_⟩
      rw [List.flatten_cons, List.getElem?_append_right (by rw [hl, Nat.succ_mul]; omega), hl, show (i + 1) * E.size + j - E.size = i * E.size + j from by rw [Nat.succ_mul]; omega]
      exact e5 j v hv

theorem OwAll.flat {α : Type} {E : Enc α} {w : World} {l : List α} {xss : List (List Value)} {fps : List (List Nat)} (h : OwAll E w l xss fps) : xss.flatten.length = l.length * E.size := by
  induction h with
  | nil => simp
  | cons h1 h2 ih =>
    rw [List.flatten_cons, List.length_append, ih, E.rd_len (E.ow_rd (B := w.heap.size) (E.ow_lt h1) h1), List.length_cons, Nat.succ_mul]
    omega

/-- A slice. 'ty': the number of the element's type. -/
def sliceE {α : Type} (E : Enc α) (ty : TypeId) : Enc (List α) where
  size := 1
  rd w B cs l := ∃ a cap, cs = [.slice a l.length cap] ∧ l.length ≤ cap ∧ cap ≤ maxLen ∧ (a = none → cap = 0) ∧
    ∀ i x, l[i]? = some x → ∃ b o xs, a = some ⟨b, o, none⟩ ∧ b < B ∧ E.rd w B xs x ∧ ∀ j v, xs[j]? = some v → w.cell? ⟨b, o + (i * E.size + j), none⟩ = some v
  ow w cs l fp := ∃ v xss fps, cs = [v] ∧ OwAll E w l xss fps ∧ w.ownsRow 0 ty E.size v l.length xss.flatten ∧ fp = v.ownBlock.toList ++ fps.flatten
  rd_len := by rintro w B cs l ⟨a, cap, rfl, _⟩; rfl
  rd_below := by
    rintro w w' B cs l h ⟨a, cap, rfl, h1, h2, h3, h4⟩
    refine ⟨a, cap, rfl, h1, h2, h3, fun i x hx => ?_⟩
    obtain ⟨b, o, xs, e1, e2, e3, e4⟩ := h4 i x hx
    exact ⟨b, o, xs, e1, e2, E.rd_below h e3, fun j v hv => by rw [h _ e2]; exact e4 j v hv⟩
  rd_mono := by
    rintro w B B' cs l h ⟨a, cap, rfl, h1, h2, h3, h4⟩
    refine ⟨a, cap, rfl, h1, h2, h3, fun i x hx => ?_⟩
    obtain ⟨b, o, xs, e1, e2, e3, e4⟩ := h4 i x hx
    exact ⟨b, o, xs, e1, by omega, E.rd_mono h e3, e4⟩
  ow_rd := by
    rintro w cs l fp B hB ⟨v, xss, fps, rfl, h1, h2, rfl⟩
    obtain ⟨hx, h2⟩ := h2
    rcases h2 with ⟨rfl, hn⟩ | ⟨g, cap, cur, rfl, hg, hh, hc, hm, hs, ht⟩
    · have hl : l = [] := List.eq_nil_of_length_eq_zero hn
      subst hl
      exact ⟨none, 0, rfl, Nat.le_refl _, Nat.zero_le _, fun _ => rfl, fun i x hx => by simp at hx⟩
    · refine ⟨some ⟨g, 0, none⟩, cap, rfl, hc, hm, (fun h => by cases h), fun i x hxi => ?_⟩
      obtain ⟨xs, f, e1, e2, e3, e4, e5⟩ := h1.rdAt (B := B) (fun b hb => hB b (List.mem_append_right _ hb)) i x hxi
      refine ⟨g, 0, xs, rfl, hB g (by simp [Value.ownBlock]), e4, fun j v hv => ?_⟩
      have hf := e5 j v hv
      rw [← ht, List.getElem?_take] at hf
      split at hf
      · rw [Nat.zero_add]
        unfold World.cell?
        rw [hh]
        simpa using hf
      · cases hf
  ow_lt := by
    rintro w cs l fp ⟨v, xss, fps, rfl, h1, h2, rfl⟩ b hb
    rcases List.mem_append.1 hb with h | h
    · exact (h2.lt b (by simpa using h)).2
    · exact h1.lt b h
  ow_frame := by
    rintro w w' cs l fp h ⟨v, xss, fps, rfl, h1, h2, rfl⟩
    refine ⟨v, xss, fps, rfl, h1.frame (fun b hb => h b (List.mem_append_right _ hb)), ⟨h2.1, ?_⟩, rfl⟩
    rcases h2.2 with hn | ⟨g, cap, cur, rfl, hg, hh, r⟩
    · exact .inl hn
    · exact .inr ⟨g, cap, cur, rfl, hg, by rw [h g (by simp [Value.ownBlock])]; exact hh, r⟩

/-- Below B all cells are as they were. -/
theorem Enc.rd_of {α : Type} (E : Enc α) {w w' : World} {B : Nat} {cs : List Value} {a : α} (hb : Below B w w') (h : E.rd w B cs a) : E.rd w' B cs a :=
  E.rd_below (fun _ hp => hb.cell hp) h

theorem Enc.ow_of {α : Type} (E : Enc α) {w w' : World} {cs : List Value} {a : α} {fp : List Nat} (hb : Below w.heap.size w w') (h : E.ow w cs a fp) : E.ow w' cs a fp :=
  E.ow_frame (fun b hm => hb.block b (E.ow_lt h b hm)) h

theorem Enc.rd_ow {α : Type} (E : Enc α) {w : World} {cs : List Value} {a : α} {fp : List Nat} (h : E.ow w cs a fp) : E.rd w w.heap.size cs a := E.ow_rd (E.ow_lt h) h

end Go.Proofs.YtbiagkbjhdidjaaDoor
