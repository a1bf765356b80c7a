/-
  What this claim leans on: values in cells, contracts of functions (21 texts of this claim's own, laid together).
-/
import Derived.WalkKit
import Derived.ProofKit
import Derived.Deep.Slices
import Derived.Laws.AppendOwn
import Derived.Deep.AppendSrc
import Derived.Deep.QuietTactic
import Derived.BigQuiet
import Derived.Deep.RegionWith
import Derived.Lib.Hide
import Derived.WalkSmall
import Derived.StillTailTactics
import Derived.Deep.RegionHeld3
import Derived.WalkSpells
import Derived.WalkLawsBesides
import Derived.Test.YtnkhgfdlehhjmaaDoorRows
import Derived.Laws.CopyOwn
import Derived.Deep.RegionLaw
import Derived.Shelf.Strings.SlTrimAscii
import Derived.Test.YtnkhgfdlehhjmaaDoorProg
/-
  Plain definitions and lemmas: how lists, structs, numbers and strings lie in Go memory ('rd': they can be read; 'ow': they lie in blocks of their own). No program is named here.
-/
namespace Go.Proofs.YtnkhgfdlehhjmaaDoor
open Go.RowKit

/-- How values of a Lean type lie in cells. 'rd w B cs a': the cells 'cs' stand for 'a', all memory that they lead to lies in blocks below B. 'ow w cs a fp': they stand for 'a' and lead to the blocks 'fp', each of which is a row of its own. -/
structure Enc (α : Type) where
  size : Nat
  rd : World → Nat → List Value → α → Prop
  ow : World → List Value → α → List Nat → Prop
  rd_len : ∀ {w B cs a}, rd w B cs a → cs.length = size
  rd_below : ∀ {w w' : World} {B cs a}, (∀ p : Addr, p.block < B → w'.cell? p = w.cell? p) → rd w B cs a → rd w' B cs a
  rd_mono : ∀ {w B B' cs a}, B ≤ B' → rd w B cs a → rd w B' cs a
  ow_rd : ∀ {w cs a fp B}, (∀ b, b ∈ fp → b < B) → ow w cs a fp → rd w B cs a
  ow_lt : ∀ {w cs a fp}, ow w cs a fp → ∀ b, b ∈ fp → b < w.heap.size
  ow_frame : ∀ {w w' : World} {cs a fp}, (∀ b, b ∈ fp → w'.heap[b]? = w.heap[b]?) → ow w cs a fp → ow w' cs a fp

/-- A type of one cell whose values are written out. -/
def cellE {α : Type} (f : α → Value) : Enc α where
  size := 1
  rd _ _ cs a := cs = [f a]
  ow _ cs a fp := cs = [f a] ∧ fp = []
  rd_len h := by rw [h]; rfl
  rd_below _ h := h
  rd_mono _ h := h
  ow_rd _ h := h.1
  ow_lt h b hb := by rw [h.2] at hb; cases hb
  ow_frame _ h := h

def intE : Enc Int where
  size := 1
  rd _ _ cs a := cs = [.int .i64 a] ∧ -9223372036854775808 ≤ a ∧ a ≤ 9223372036854775807
  ow _ cs a fp := (cs = [.int .i64 a] ∧ -9223372036854775808 ≤ a ∧ a ≤ 9223372036854775807) ∧ fp = []
  rd_len h := by rw [h.1]; rfl
  rd_below _ h := h
  rd_mono _ h := h
  ow_rd _ h := h.1
  ow_lt h b hb := by rw [h.2] at hb; cases hb
  ow_frame _ h := h

def boolE : Enc Bool := cellE .bool

def strE : Enc ByteArray where
  size := 1
  rd _ _ cs a := cs = [.string a] ∧ a.size ≤ maxLen
  ow _ cs a fp := (cs = [.string a] ∧ a.size ≤ maxLen) ∧ fp = []
  rd_len h := by rw [h.1]; rfl
  rd_below _ h := h
  rd_mono _ h := h
  ow_rd _ h := h.1
  ow_lt h b hb := by rw [h.2] at hb; cases hb
  ow_frame _ h := h

/-- Two types side by side: a struct. -/
def pairE {α β : Type} (E : Enc α) (F : Enc β) : Enc (α × β) where
  size := E.size + F.size
  rd w B cs a := ∃ c1 c2, cs = c1 ++ c2 ∧ E.rd w B c1 a.1 ∧ F.rd w B c2 a.2
  ow w cs a fp := ∃ c1 c2 f1 f2, cs = c1 ++ c2 ∧ fp = f1 ++ f2 ∧ E.ow w c1 a.1 f1 ∧ F.ow w c2 a.2 f2
  rd_len := by rintro w B cs a ⟨c1, c2, rfl, h1, h2⟩; rw [List.length_append, E.rd_len h1, F.rd_len h2]
  rd_below := by rintro w w' B cs a h ⟨c1, c2, rfl, h1, h2⟩; exact ⟨c1, c2, rfl, E.rd_below h h1, F.rd_below h h2⟩
  rd_mono := by rintro w B B' cs a h ⟨c1, c2, rfl, h1, h2⟩; exact ⟨c1, c2, rfl, E.rd_mono h h1, F.rd_mono h h2⟩
  ow_rd := by
    rintro w cs a fp B hB ⟨c1, c2, f1, f2, rfl, rfl, h1, h2⟩
    exact ⟨c1, c2, rfl, E.ow_rd (fun b hb => hB b (by simp [hb])) h1, F.ow_rd (fun b hb => hB b (by simp [hb])) h2⟩
  ow_lt := by
    rintro w cs a fp ⟨c1, c2, f1, f2, rfl, rfl, h1, h2⟩ b hb
    rcases List.mem_append.1 hb with h | h
    · exact E.ow_lt h1 b h
    · exact F.ow_lt h2 b h
  ow_frame := by
    rintro w w' cs a fp h ⟨c1, c2, f1, f2, rfl, rfl, h1, h2⟩
    exact ⟨c1, c2, f1, f2, rfl, rfl, E.ow_frame (fun b hb => h b (by simp [hb])) h1, F.ow_frame (fun b hb => h b (by simp [hb])) h2⟩

/-- A type seen through a function: a Lean structure as a product. -/
def viaE {α β : Type} (E : Enc β) (f : α → β) : Enc α where
  size := E.size
  rd w B cs a := E.rd w B cs (f a)
  ow w cs a fp := E.ow w cs (f a) fp
  rd_len h := E.rd_len h
  rd_below h := E.rd_below h
  rd_mono h := E.rd_mono h
  ow_rd h := E.ow_rd h
  ow_lt h := E.ow_lt h
  ow_frame h := E.ow_frame h

/-- All elements of a list lie in their cells, each with blocks of its own. -/
inductive OwAll {α : Type} (E : Enc α) (w : World) : List α → List (List Value) → List (List Nat) → Prop
  | nil : OwAll E w [] [] []
  | cons {a l cs xss f fps} : E.ow w cs a f → OwAll E w l xss fps → OwAll E w (a :: l) (cs :: xss) (f :: fps)

theorem OwAll.frame {α : Type} {E : Enc α} {w w' : World} {l : List α} {xss : List (List Value)} {fps : List (List Nat)} (h : OwAll E w l xss fps) (hf : ∀ b, b ∈ fps.flatten → w'.heap[b]? = w.heap[b]?) : OwAll E w' l xss fps := by
  induction h with
  | nil => exact .nil
  | cons h1 h2 ih => exact .cons (E.ow_frame (fun b hb => hf b (by simp [hb])) h1) (ih (fun b hb => hf b (by rw [List.flatten_cons]; exact List.mem_append_right _ hb)))

theorem OwAll.lt {α : Type} {E : Enc α} {w : World} {l : List α} {xss : List (List Value)} {fps : List (List Nat)} (h : OwAll E w l xss fps) : ∀ b, b ∈ fps.flatten → b < w.heap.size := by
  induction h with
  | nil => intro b hb; simp at hb
  | cons h1 h2 ih =>
    intro b hb
    rw [List.flatten_cons] at hb
    rcases List.mem_append.1 hb with h | h
    · exact E.ow_lt h1 b h
    · exact ih b h

theorem OwAll.len {α : Type} {E : Enc α} {w : World} {l : List α} {xss : List (List Value)} {fps : List (List Nat)} (h : OwAll E w l xss fps) : xss.length = l.length ∧ fps.length = l.length := by
  induction h with
  | nil => exact ⟨rfl, rfl⟩
  | cons h1 h2 ih => simp [ih.1, ih.2]

theorem OwAll.append {α : Type} {E : Enc α} {w : World} {l : List α} {xss : List (List Value)} {fps : List (List Nat)} (h : OwAll E w l xss fps) {l' : List α} {xss' : List (List Value)} {fps' : List (List Nat)} (h' : OwAll E w l' xss' fps') :
    OwAll E w (l ++ l') (xss ++ xss') (fps ++ fps') := by
  induction h with
  | nil => exact h'
  | cons h1 h2 ih => exact .cons h1 ih

theorem OwAll.one {α : Type} {E : Enc α} {w : World} {a : α} {cs : List Value} {f : List Nat} (h : E.ow w cs a f) : OwAll E w [a] [cs] [f] := .cons h .nil

theorem OwAll.rdAt {α : Type} {E : Enc α} {w : World} {l : List α} {xss : List (List Value)} {fps : List (List Nat)} {B : Nat} (h : OwAll E w l xss fps) (hB : ∀ b, b ∈ fps.flatten → b < B) :
    ∀ i x, l[i]? = some x → ∃ xs f, xss[i]? = some xs ∧ fps[i]? = some f ∧ E.ow w xs x f ∧ E.rd w B xs x ∧ ∀ j v, xs[j]? = some v → xss.flatten[i * E.size + j]? = some v := by
  induction h with
  | nil => intro i x hx; simp at hx
  | @cons a l cs xss f fps h1 h2 ih =>
    intro i x hx
    have hl : cs.length = E.size := E.rd_len (E.ow_rd (B := B) (fun b hb => hB b (by simp [hb])) h1)
    cases i with
    | zero =>
      simp only [List.getElem?_cons_zero, Option.some.injEq] at hx
      subst hx
      refine ⟨cs, f, rfl, rfl, h1, E.ow_rd (fun b hb => hB b (by simp [hb])) h1, fun j v hv => ?_⟩
      rw [List.flatten_cons, Nat.zero_mul, Nat.zero_add, List.getElem?_append_left]
      · exact hv
      · exact (List.getElem?_eq_some_iff.1 hv).1
    | succ i =>
      simp only [List.getElem?_cons_succ] at hx
      obtain ⟨xs, g, e1, e2, e3, e4, e5⟩ := ih (fun b hb => hB b (by rw [List.flatten_cons]; exact List.mem_append_right _ hb)) i x hx
      refine ⟨xs, g, by simpa using e1, by simpa using e2, e3, e4, fun j v hv => ?_⟩
      rw [List.flatten_cons, List.getElem?_append_right (by rw [hl, Nat.succ_mul]; omega), hl, show (i + 1) * E.size + j - E.size = i * E.size + j from by rw [Nat.succ_mul]; omega]
      exact e5 j v hv

theorem OwAll.flat {α : Type} {E : Enc α} {w : World} {l : List α} {xss : List (List Value)} {fps : List (List Nat)} (h : OwAll E w l xss fps) : xss.flatten.length = l.length * E.size := by
  induction h with
  | nil => simp
  | cons h1 h2 ih =>
    rw [List.flatten_cons, List.length_append, ih, E.rd_len (E.ow_rd (B := w.heap.size) (E.ow_lt h1) h1), List.length_cons, Nat.succ_mul]
    omega

/-- A slice. 'ty': the number of the element's type. -/
def sliceE {α : Type} (E : Enc α) (ty : TypeId) : Enc (List α) where
  size := 1
  rd w B cs l := ∃ a cap, cs = [.slice a l.length cap] ∧ l.length ≤ cap ∧ cap ≤ maxLen ∧ (a = none → cap = 0) ∧
    ∀ i x, l[i]? = some x → ∃ b o xs, a = some ⟨b, o, none⟩ ∧ b < B ∧ E.rd w B xs x ∧ ∀ j v, xs[j]? = some v → w.cell? ⟨b, o + (i * E.size + j), none⟩ = some v
  ow w cs l fp := ∃ v xss fps, cs = [v] ∧ OwAll E w l xss fps ∧ w.ownsRow 0 ty E.size v l.length xss.flatten ∧ fp = v.ownBlock.toList ++ fps.flatten
  rd_len := by rintro w B cs l ⟨a, cap, rfl, _⟩; rfl
  rd_below := by
    rintro w w' B cs l h ⟨a, cap, rfl, h1, h2, h3, h4⟩
    refine ⟨a, cap, rfl, h1, h2, h3, fun i x hx => ?_⟩
    obtain ⟨b, o, xs, e1, e2, e3, e4⟩ := h4 i x hx
    exact ⟨b, o, xs, e1, e2, E.rd_below h e3, fun j v hv => by rw [h _ e2]; exact e4 j v hv⟩
  rd_mono := by
    rintro w B B' cs l h ⟨a, cap, rfl, h1, h2, h3, h4⟩
    refine ⟨a, cap, rfl, h1, h2, h3, fun i x hx => ?_⟩
    obtain ⟨b, o, xs, e1, e2, e3, e4⟩ := h4 i x hx
    exact ⟨b, o, xs, e1, by omega, E.rd_mono h e3, e4⟩
  ow_rd := by
    rintro w cs l fp B hB ⟨v, xss, fps, rfl, h1, h2, rfl⟩
    obtain ⟨hx, h2⟩ := h2
    rcases h2 with ⟨rfl, hn⟩ | ⟨g, cap, cur, rfl, hg, hh, hc, hm, hs, ht⟩
    · have hl : l = [] := List.eq_nil_of_length_eq_zero hn
      subst hl
      exact ⟨none, 0, rfl, Nat.le_refl _, Nat.zero_le _, fun _ => rfl, fun i x hx => by simp at hx⟩
    · refine ⟨some ⟨g, 0, none⟩, cap, rfl, hc, hm, (fun h => by cases h), fun i x hxi => ?_⟩
      obtain ⟨xs, f, e1, e2, e3, e4, e5⟩ := h1.rdAt (B := B) (fun b hb => hB b (List.mem_append_right _ hb)) i x hxi
      refine ⟨g, 0, xs, rfl, hB g (by simp [Value.ownBlock]), e4, fun j v hv => ?_⟩
      have hf := e5 j v hv
      rw [← ht, List.getElem?_take] at hf
      split at hf
      · rw [Nat.zero_add]
        unfold World.cell?
        rw [hh]
        simpa using hf
      · cases hf
  ow_lt := by
    rintro w cs l fp ⟨v, xss, fps, rfl, h1, h2, rfl⟩ b hb
    rcases List.mem_append.1 hb with h | h
    · exact (h2.lt b (by simpa using h)).2
    · exact h1.lt b h
  ow_frame := by
    rintro w w' cs l fp h ⟨v, xss, fps, rfl, h1, h2, rfl⟩
    refine ⟨v, xss, fps, rfl, h1.frame (fun b hb => h b (List.mem_append_right _ hb)), ⟨h2.1, ?_⟩, rfl⟩
    rcases h2.2 with hn | ⟨g, cap, cur, rfl, hg, hh, r⟩
    · exact .inl hn
    · exact .inr ⟨g, cap, cur, rfl, hg, by rw [h g (by simp [Value.ownBlock])]; exact hh, r⟩

/-- Below B all cells are as they were. -/
theorem Enc.rd_of {α : Type} (E : Enc α) {w w' : World} {B : Nat} {cs : List Value} {a : α} (hb : Below B w w') (h : E.rd w B cs a) : E.rd w' B cs a :=
  E.rd_below (fun _ hp => hb.cell hp) h

theorem Enc.ow_of {α : Type} (E : Enc α) {w w' : World} {cs : List Value} {a : α} {fp : List Nat} (hb : Below w.heap.size w w') (h : E.ow w cs a fp) : E.ow w' cs a fp :=
  E.ow_frame (fun b hm => hb.block b (E.ow_lt h b hm)) h

theorem Enc.rd_ow {α : Type} (E : Enc α) {w : World} {cs : List Value} {a : α} {fp : List Nat} (h : E.ow w cs a fp) : E.rd w w.heap.size cs a := E.ow_rd (E.ow_lt h) h

end Go.Proofs.YtnkhgfdlehhjmaaDoor

/-
  Plain lemmas: what 'Enc.rd' says of a slice, spelled as a walk reads it (one cell an element, or several), and small words for contracts. No program is named here.
-/
namespace Go.Proofs.YtnkhgfdlehhjmaaDoor
open Go.RowKit

section
variable {α : Type} {E : Enc α} {ty : TypeId} {w : World} {B : Nat} {v : Value} {l : List α}

/-- A slice whose elements are one cell each. -/
theorem rd_slice1 [Inhabited α] (hs : E.size = 1) (h : (sliceE E ty).rd w B [v] l) :
    ∃ a cap, v = .slice a l.length cap ∧ l.length ≤ cap ∧ cap ≤ 9223372036854775807 ∧ (a = none → cap = 0) ∧
      ∀ k, k < l.length → ∃ b o vk, a = some ⟨b, o, none⟩ ∧ b < B ∧ w.cell? ⟨b, o + k, none⟩ = some vk ∧ E.rd w B [vk] (l[k]?.getD default) := by
  obtain ⟨a, cap, hv, h1, h2, h3, h4⟩ := h
  obtain rfl : v = .slice a l.length cap := by simpa using hv
  refine ⟨a, cap, rfl, h1, by simpa [maxLen] using h2, h3, fun k hk => ?_⟩
  have hx : l[k]? = some (l[k]?.getD default) := by simp [List.getElem?_eq_getElem hk]
  obtain ⟨b, o, xs, e1, e2, e3, e4⟩ := h4 k _ hx
  have hl := E.rd_len e3
  rw [hs] at hl
  match xs, hl with
  | [vk], _ =>
    have := e4 0 vk rfl
    rw [hs] at this
    exact ⟨b, o, vk, e1, e2, by simpa using this, e3⟩

theorem rd_slice (h : (sliceE E ty).rd w B [v] l) : ∃ a n c, v = .slice a n c := by
  obtain ⟨a, cap, hv, _⟩ := h
  exact ⟨a, _, cap, by simpa using hv⟩

theorem rd_ints {l : List Int} (h : (sliceE intE ty).rd w B [v] l) :
    ∃ a cap, v = .slice a l.length cap ∧ l.length ≤ cap ∧ cap ≤ 9223372036854775807 ∧ (a = none → cap = 0) ∧
      ∀ k, k < l.length → ∃ b o, a = some ⟨b, o, none⟩ ∧ b < B ∧ w.cell? ⟨b, o + k, none⟩ = some (.int .i64 (l[k]?.getD 0)) ∧ -9223372036854775808 ≤ l[k]?.getD 0 ∧ l[k]?.getD 0 ≤ 9223372036854775807 := by
  obtain ⟨a, cap, h1, h2, h3, h4, h5⟩ := rd_slice1 rfl h
  refine ⟨a, cap, h1, h2, h3, h4, fun k hk => ?_⟩
  obtain ⟨b, o, vk, e1, e2, e3, e4⟩ := h5 k hk
  obtain ⟨e5, e6⟩ := e4
  simp only [List.cons.injEq, and_true] at e5
  subst e5
  exact ⟨b, o, e1, e2, e3, e6⟩

theorem rd_bools {l : List Bool} (h : (sliceE boolE ty).rd w B [v] l) :
    ∃ a cap, v = .slice a l.length cap ∧ l.length ≤ cap ∧ cap ≤ 9223372036854775807 ∧ (a = none → cap = 0) ∧
      ∀ k, k < l.length → ∃ b o, a = some ⟨b, o, none⟩ ∧ b < B ∧ w.cell? ⟨b, o + k, none⟩ = some (.bool (l[k]?.getD false)) := by
  obtain ⟨a, cap, h1, h2, h3, h4, h5⟩ := rd_slice1 rfl h
  refine ⟨a, cap, h1, h2, h3, h4, fun k hk => ?_⟩
  obtain ⟨b, o, vk, e1, e2, e3, e4⟩ := h5 k hk
  have e5 : [vk] = [Value.bool (l[k]?.getD default)] := e4
  simp only [List.cons.injEq, and_true] at e5
  subst e5
  exact ⟨b, o, e1, e2, e3⟩

theorem rd_strs {l : List ByteArray} (h : (sliceE strE ty).rd w B [v] l) :
    ∃ a cap, v = .slice a l.length cap ∧ l.length ≤ cap ∧ cap ≤ 9223372036854775807 ∧ (a = none → cap = 0) ∧
      ∀ k, k < l.length → ∃ b o, a = some ⟨b, o, none⟩ ∧ b < B ∧ w.cell? ⟨b, o + k, none⟩ = some (.string (l[k]?.getD ByteArray.empty)) ∧ (l[k]?.getD ByteArray.empty).size ≤ 9223372036854775807 := by
  obtain ⟨a, cap, h1, h2, h3, h4, h5⟩ := rd_slice1 (E := strE) rfl h
  refine ⟨a, cap, h1, h2, h3, h4, fun k hk => ?_⟩
  obtain ⟨b, o, vk, e1, e2, e3, e4⟩ := h5 k hk
  obtain ⟨e5, e6⟩ := e4
  simp only [List.cons.injEq, and_true] at e5
  subst e5
  exact ⟨b, o, e1, e2, e3, e6⟩
end

theorem len_le {α : Type} {E : Enc α} {ty : TypeId} {w : World} {B : Nat} {cs : List Value} {l : List α} (h : (sliceE E ty).rd w B cs l) : l.length ≤ 9223372036854775807 := by
  obtain ⟨a, cap, _, h1, h2, _⟩ := h
  simp [maxLen] at h2
  omega

/-- A call that only reads: it hands back v; memory that was there is as it was. -/
def Gives (v : Value) (w : World) (e : Ending) (w' : World) : Prop := e = .returned v ∧ Below w.heap.size w w'

/-- A call that hands back v and leaves the world as it was. -/
def Keeps (v : Value) (w : World) (e : Ending) (w' : World) : Prop := e = .returned v ∧ w = w'

/-- A call that hands back a value of one cell, of new memory ('f': the value among the results). -/
def Makes {α : Type} (E : Enc α) (f : Value → Value) (a : α) (w : World) (e : Ending) (w' : World) : Prop :=
  ∃ v fp, e = .returned (f v) ∧ E.ow w' [v] a fp ∧ fp.Nodup ∧ (∀ b, b ∈ fp → w.heap.size ≤ b) ∧ Below w.heap.size w w'

/-- The same of a struct. -/
def MakesS {α : Type} (E : Enc α) (f : Value → Value) (a : α) (w : World) (e : Ending) (w' : World) : Prop :=
  ∃ cs fp, e = .returned (f (.agg cs.toArray)) ∧ E.ow w' cs a fp ∧ fp.Nodup ∧ (∀ b, b ∈ fp → w.heap.size ≤ b) ∧ Below w.heap.size w w'

/-- Every block but those of a list is as it was. -/
structure But (fp : List Nat) (w w' : World) : Prop where
  os : w'.os = w.os
  tape : w'.tape = w.tape
  output : w'.output = w.output
  size : w.heap.size ≤ w'.heap.size
  block : ∀ k, k < w.heap.size → k ∉ fp → w'.heap[k]? = w.heap[k]?

theorem But.below {fp : List Nat} {w w' : World} {B : Nat} (h : But fp w w') (hB : ∀ b, b ∈ fp → B ≤ b) (hs : B ≤ w.heap.size) : Below B w w' :=
  ⟨h.os, h.tape, h.output, h.size, fun k hk => h.block k (by omega) (fun hm => by have := hB k hm; omega)⟩

theorem ownsRow_zero {w : World} {base : Nat} {e : TypeId} {size : Nat} {v : Value} {n : Nat} {xs : List Value} (h : w.ownsRow base e size v n xs) : w.ownsRow 0 e size v n xs := by
  refine ⟨h.1, ?_⟩
  rcases h.2 with h | ⟨g, cap, cur, h1, _, h2⟩
  · exact .inl h
  · exact .inr ⟨g, cap, cur, h1, Nat.zero_le _, h2⟩

theorem flat_ones (vs : List Value) : (vs.map fun v => [v]).flatten = vs := by
  induction vs with
  | nil => rfl
  | cons v vs ih => simp [ih]

/-- A slice of elements of one cell that lead nowhere. -/
theorem ow_flat {α : Type} {E : Enc α} {ty : TypeId} {w : World} {v : Value} {l : List α} {base : Nat} (f : α → Value) (hE : E.size = 1) (hf : ∀ x, x ∈ l → E.ow w [f x] x []) (h : w.ownsRow base ty 1 v l.length (l.map f)) :
    (sliceE E ty).ow w [v] l v.ownBlock.toList := by
  refine ⟨v, (l.map f).map fun v => [v], l.map fun _ => [], rfl, ?_, ?_, ?_⟩
  · clear h
    induction l with
    | nil => exact .nil
    | cons a l ih => exact .cons (hf a (by simp)) (ih fun x hx => hf x (by simp [hx]))
  · rw [hE, flat_ones]; exact ownsRow_zero h
  · have : (l.map fun _ => ([] : List Nat)).flatten = [] := by simp
    rw [this, List.append_nil]

/-- A slice of elements of one cell. -/
theorem ow_ones {α : Type} {E : Enc α} {ty : TypeId} {w : World} {v : Value} {l : List α} {vs : List Value} {fps : List (List Nat)} {base : Nat} (hE : E.size = 1) (hf : OwAll E w l (vs.map fun v => [v]) fps)
    (h : w.ownsRow base ty 1 v l.length vs) : (sliceE E ty).ow w [v] l (v.ownBlock.toList ++ fps.flatten) :=
  ⟨v, vs.map fun v => [v], fps, rfl, hf, by rw [hE, flat_ones]; exact ownsRow_zero h, rfl⟩

theorem ownsRow_cells {w : World} {base : Nat} {e : TypeId} {size : Nat} {v : Value} {n : Nat} {xs : List Value} (h : w.ownsRow base e size v n xs) : v.cells.toList = [v] := by
  rcases h.2 with ⟨rfl, _⟩ | ⟨g, cap, cur, rfl, _⟩ <;> rfl

theorem ow_shape {α : Type} {E : Enc α} {ty : TypeId} {w : World} {v : Value} {l : List α} {fp : List Nat} (h : (sliceE E ty).ow w [v] l fp) : ∃ a c, v = .slice a l.length c := by
  obtain ⟨v', xss, fps, hv, _, h2, _⟩ := h
  obtain rfl : v = v' := by simpa using hv
  rcases h2.2 with ⟨rfl, hn⟩ | ⟨g, cap, cur, rfl, _⟩
  · exact ⟨none, 0, by rw [hn]⟩
  · exact ⟨_, _, rfl⟩

theorem ow_slice {α : Type} {E : Enc α} {ty : TypeId} {w : World} {v : Value} {l : List α} {fp : List Nat} (h : (sliceE E ty).ow w [v] l fp) : ∃ a n c, v = .slice a n c := by
  obtain ⟨a, c, h⟩ := ow_shape h
  exact ⟨a, _, c, h⟩

theorem get_some {α : Type} (d : α) {l : List α} {k : Nat} (h : k < l.length) : l[k]? = some (l[k]?.getD d) := by simp [List.getElem?_eq_getElem h]

theorem nodup_option (o : Option Nat) : o.toList.Nodup := by cases o <;> simp

/-- The end of a walk that hands back a slice of its own, of elements of one cell that lead nowhere. -/
theorem makes_flat {α : Type} {E : Enc α} {ty : TypeId} {w wr : World} {v : Value} {l : List α} {g : Nat} (f : α → Value) (hE : E.size = 1) (hf : ∀ x, x ∈ l → E.ow wr [f x] x []) (h : wr.ownsRow g ty 1 v l.length (l.map f))
    (hB : Below g w wr) (hg : g = w.heap.size) : Makes (sliceE E ty) id l w (.returned v) wr := by
  subst hg
  refine ⟨v, v.ownBlock.toList, rfl, ?_, nodup_option _, ?_, hB⟩
  · exact ow_flat f hE hf h
  · intro b hb
    exact (h.lt b (by simpa using hb)).1

/-- make([]T, n), n one of the walk's numbers, T of one cell. -/
theorem make_run {P : Program} {t e : TypeId} {i : TypeInfo} {z : Value} (ht : P.underlying t = some (.slice e)) (hi : P.info? e = some i) (hz : i.zero = some z) (hs : i.size = 1) (n : Nat) (hb : i.bytes * n ≤ 281474976710656) (hn : n ≤ 9223372036854775807) (w : World) :
    (Instr.makeSlice t (.int .i64 (n : Int)) (.int .i64 (n : Int))).run P w = .ok (.slice (some ⟨w.heap.size, 0, none⟩) n n) (w.alloc (.cells (madeCells z.cells n) e)) := by
  have hb' : (i.bytes : Int) * (n : Int) ≤ 281474976710656 := by
    have h : ((i.bytes * n : Nat) : Int) ≤ 281474976710656 := by omega
    rwa [Int.natCast_mul] at h
  have := run_make w t e i z ht hi hz .i64 .i64 n n (by omega) (by omega) hb' (by omega)
  rw [this]
  simp [hs]

theorem made_owns {w : World} {ty : TypeId} (z : Value) (n : Nat) (hn : n ≤ maxLen) : (w.alloc (.cells (madeCells #[z] n) ty)).ownsRow w.heap.size ty 1 (.slice (some ⟨w.heap.size, 0, none⟩) n n) n (List.replicate n z) := by
  have := World.ownsRow_lit (e := ty) (size := 1) w (madeCells #[z] n) n (Nat.le_refl _) hn (by simp [size_madeCells])
  rwa [toList_madeCells_one] at this

theorem ownsRow_below {w w' : World} {base : Nat} {e : TypeId} {size : Nat} {v : Value} {n : Nat} {xs : List Value} (h : w.ownsRow base e size v n xs) (hb : Below w.heap.size w w') : w'.ownsRow base e size v n xs :=
  h.kept (row := none) ⟨hb.os, hb.tape, hb.output, hb.size, fun k hk _ => hb.block k hk⟩ (by cases hv : v.ownBlock <;> simp)

/-- A row of n cells of its own (block g), of which the first k have been filled, each with a value that leads to blocks of its own. -/
def Spine {α : Type} (E : Enc α) (ty : TypeId) (g n : Nat) (z : Value) (l : List α) (k : Nat) (w0 wr : World) : Prop :=
  ∃ vs fps, vs.length = k ∧ wr.ownsRow g ty 1 (.slice (some ⟨g, 0, none⟩) n n) n (vs ++ List.replicate (n - k) z) ∧ OwAll E wr (l.take k) (vs.map fun v => [v]) fps ∧ fps.flatten.Nodup ∧ (∀ b, b ∈ fps.flatten → g < b) ∧ Below g w0 wr

section
variable {α : Type} {E : Enc α} {ty : TypeId} {g n k : Nat} {z : Value} {l : List α} {w0 wr : World}

theorem Spine.start (h : wr.ownsRow g ty 1 (.slice (some ⟨g, 0, none⟩) n n) n (List.replicate n z)) (hB : Below g w0 wr) : Spine E ty g n z l 0 w0 wr :=
  ⟨[], [], rfl, by simpa using h, by simpa using OwAll.nil, by simp, by simp, hB⟩

theorem Spine.below (h : Spine E ty g n z l k w0 wr) : Below g w0 wr := by
  obtain ⟨vs, fps, _, _, _, _, _, h⟩ := h
  exact h

theorem Spine.lt (h : Spine E ty g n z l k w0 wr) : g < wr.heap.size := by
  obtain ⟨vs, fps, _, h, _⟩ := h
  exact (h.lt g rfl).2

theorem Spine.cell (h : Spine E ty g n z l k w0 wr) (hk : k < n) {w1 : World} (hb : Below wr.heap.size wr w1) : w1.cell? ⟨g, k, none⟩ = some z ∧ w1.frozen? ⟨g, k, none⟩ = false := by
  obtain ⟨vs, fps, hl, h, _⟩ := h
  have h1 := ownsRow_below h hb
  refine ⟨?_, h1.frozenAt k⟩
  rw [h1.cellAt k (by omega), List.getElem?_append_right (by omega), hl, Nat.sub_self, List.getElem?_replicate, if_pos (by omega)]

theorem Spine.step (h : Spine E ty g n z l k w0 wr) (hk : k < n) {w1 : World} (hb : Below wr.heap.size wr w1) {x : α} (hx : l[k]? = some x) {v : Value} {fp : List Nat} (ho : E.ow w1 [v] x fp) (hn : fp.Nodup)
    (hf : ∀ b, b ∈ fp → wr.heap.size ≤ b) : Spine E ty g n z l (k + 1) w0 (w1.setCell ⟨g, k, none⟩ v) := by
  have hgl := h.lt
  obtain ⟨vs, fps, hl, h1, h2, h3, h4, h5⟩ := h
  have hd : ∀ b, b ∈ fps.flatten → b < wr.heap.size := h2.lt
  refine ⟨vs ++ [v], fps ++ [fp], by simp [hl], ?_, ?_, ?_, ?_, ?_⟩
  · have := ((ownsRow_below h1 hb).stored k v).1
    have e : (vs ++ List.replicate (n - k) z).set k v = vs ++ [v] ++ List.replicate (n - (k + 1)) z := by
      rw [List.set_append_right _ _ (by omega), hl, Nat.sub_self, show n - k = (n - (k + 1)) + 1 from by omega, List.replicate_succ]
      simp
    rwa [e] at this
  · have hkl : k < l.length := (List.getElem?_eq_some_iff.1 hx).1
    have hx' : l[k] = x := (List.getElem?_eq_some_iff.1 hx).2
    rw [List.take_succ_eq_append_getElem hkl, hx', List.map_append]
    refine (h2.frame fun b hm => ?_).append (OwAll.one (E.ow_frame (fun b hm => ?_) ho))
    · have hne : b ≠ g := by have := h4 b hm; omega
      rw [Below.heap_setCell _ _ _ _ (by simpa using hne)]
      exact hb.block b (hd b hm)
    · have hne : b ≠ g := by have := hf b hm; omega
      rw [Below.heap_setCell _ _ _ _ (by simpa using hne)]
  · rw [List.flatten_append, List.nodup_append]
    refine ⟨h3, by simpa using hn, fun a ha b hb' e => ?_⟩
    have h6 := hd a ha
    have h7 := hf b (by simpa using hb')
    omega
  · intro b hm
    rw [List.flatten_append] at hm
    rcases List.mem_append.1 hm with hm | hm
    · exact h4 b hm
    · have := hf b (by simpa using hm)
      omega
  · exact (h5.trans (hb.mono (by omega))).setCell (Nat.le_refl _) _

theorem Spine.done (h : Spine E ty g n z l n w0 wr) (hE : E.size = 1) (hn : n = l.length) (hg : g = w0.heap.size) : Makes (sliceE E ty) id l w0 (.returned (.slice (some ⟨g, 0, none⟩) n n)) wr := by
  subst hn
  obtain ⟨vs, fps, hl, h1, h2, h3, h4, h5⟩ := h
  rw [List.take_length] at h2
  rw [Nat.sub_self, List.replicate_zero, List.append_nil] at h1
  refine ⟨_, g :: fps.flatten, rfl, ow_ones hE h2 h1, ?_, ?_, hg ▸ h5⟩
  · rw [List.nodup_cons]
    exact ⟨fun hm => by have := h4 g hm; omega, h3⟩
  · intro b hm
    rcases List.mem_cons.1 hm with rfl | hm
    · omega
    · have := h4 b hm
      omega
end

/-- Block b holds these cells, and may be written. -/
def Blk (w : World) (b : Nat) (cs : List Value) (ty : TypeId) : Prop := w.heap[b]? = some (.cells cs.toArray ty (0, 0))

section
variable {w w' : World} {b : Nat} {cs : List Value} {ty : TypeId}

theorem Blk.lt (h : Blk w b cs ty) : b < w.heap.size := (Array.getElem?_eq_some_iff.1 h).1
theorem Blk.new (w : World) (cs : Array Value) (ty : TypeId) : Blk (w.alloc (.cells cs ty)) w.heap.size cs.toList ty := by
  unfold Blk; rw [heap_alloc_new]
theorem Blk.alloc (h : Blk w b cs ty) (o : Obj) : Blk (w.alloc o) b cs ty := by
  unfold Blk; rw [Below.heap_alloc w o b h.lt]; exact h
theorem Blk.of {B : Nat} (h : Blk w b cs ty) (hb : Below B w w') (hB : b < B) : Blk w' b cs ty := by
  unfold Blk; rw [hb.block b hB]; exact h
theorem Blk.same (h : Blk w b cs ty) (hb : w'.heap[b]? = w.heap[b]?) : Blk w' b cs ty := by
  unfold Blk; rw [hb]; exact h
theorem Blk.set (h : Blk w b cs ty) (i : Nat) (v : Value) : Blk (w.setCell ⟨b, i, none⟩ v) b (cs.set i v) ty := by
  unfold Blk; rw [heap_setCell_same w b i cs.toArray ty v h]; simp
theorem Blk.other (h : Blk w b cs ty) {a : Addr} (ha : b ≠ a.block) (v : Value) : Blk (w.setCell a v) b cs ty := by
  unfold Blk; rw [Below.heap_setCell _ _ _ _ ha]; exact h
theorem Blk.cell (h : Blk w b cs ty) (i : Nat) {v : Value} (hv : cs[i]? = some v) : w.cell? ⟨b, i, none⟩ = some v := by
  have : w.heap[b]? = some (.cells cs.toArray ty (0, 0)) := h
  simp [World.cell?, this, hv]
theorem Blk.free (h : Blk w b cs ty) (i : Nat) : w.frozen? ⟨b, i, none⟩ = false := frozen_of_row w b i _ _ h
end

theorem blk1 {w w' : World} {c0 : Array Value} {t0 : TypeId} (h : w.alloc (.cells c0 t0) = w') : Blk w' w.heap.size c0.toList t0 ∧ Below w.heap.size w w' := by
  subst h
  exact ⟨Blk.new _ _ _, (Below.refl _ _).alloc (Nat.le_refl _) _⟩

theorem blk2 {w w' : World} {c0 c1 : Array Value} {t0 t1 : TypeId} (h : (w.alloc (.cells c0 t0)).alloc (.cells c1 t1) = w') :
    Blk w' w.heap.size c0.toList t0 ∧ Blk w' (w.heap.size + 1) c1.toList t1 ∧ Below w.heap.size w w' := by
  obtain ⟨h0, h1⟩ := blk1 (rfl : w.alloc (.cells c0 t0) = _)
  obtain ⟨h2, h3⟩ := blk1 h
  rw [World.size_alloc] at h2 h3
  exact ⟨h0.of h3 (by omega), h2, h1.trans (h3.mono (by omega))⟩

theorem blk3 {w w' : World} {c0 c1 c2 : Array Value} {t0 t1 t2 : TypeId} (h : ((w.alloc (.cells c0 t0)).alloc (.cells c1 t1)).alloc (.cells c2 t2) = w') :
    Blk w' w.heap.size c0.toList t0 ∧ Blk w' (w.heap.size + 1) c1.toList t1 ∧ Blk w' (w.heap.size + 1 + 1) c2.toList t2 ∧ Below w.heap.size w w' := by
  obtain ⟨h0, h1, h2⟩ := blk2 (rfl : (w.alloc (.cells c0 t0)).alloc (.cells c1 t1) = _)
  obtain ⟨h3, h4⟩ := blk1 h
  rw [World.size_alloc, World.size_alloc] at h3 h4
  exact ⟨h0.of h4 (by omega), h1.of h4 (by omega), h3, h2.trans (h4.mono (by omega))⟩

theorem blk4 {w w' : World} {c0 c1 c2 c3 : Array Value} {t0 t1 t2 t3 : TypeId} (h : (((w.alloc (.cells c0 t0)).alloc (.cells c1 t1)).alloc (.cells c2 t2)).alloc (.cells c3 t3) = w') :
    Blk w' w.heap.size c0.toList t0 ∧ Blk w' (w.heap.size + 1) c1.toList t1 ∧ Blk w' (w.heap.size + 1 + 1) c2.toList t2 ∧ Blk w' (w.heap.size + 1 + 1 + 1) c3.toList t3 ∧ Below w.heap.size w w' := by
  obtain ⟨h0, h1, h2, h5⟩ := blk3 (rfl : ((w.alloc (.cells c0 t0)).alloc (.cells c1 t1)).alloc (.cells c2 t2) = _)
  obtain ⟨h3, h4⟩ := blk1 h
  rw [World.size_alloc, World.size_alloc, World.size_alloc] at h3 h4
  exact ⟨h0.of h4 (by omega), h1.of h4 (by omega), h2.of h4 (by omega), h3, h5.trans (h4.mono (by omega))⟩

theorem But.refl (fp : List Nat) (w : World) : But fp w w := ⟨rfl, rfl, rfl, Nat.le_refl _, fun _ _ _ => rfl⟩
theorem But.setCell {fp : List Nat} {w w' : World} (h : But fp w w') {a : Addr} (ha : a.block ∈ fp) (v : Value) : But fp w (w'.setCell a v) :=
  ⟨h.os, h.tape, h.output, by simpa using h.size, fun k hk hn => by rw [Below.heap_setCell _ _ _ _ (fun e => hn (by rw [e]; exact ha))]; exact h.block k hk hn⟩
theorem But.trans {fp : List Nat} {w w' w'' : World} (h : But fp w w') (k : But fp w' w'') : But fp w w'' :=
  ⟨k.os.trans h.os, k.tape.trans h.tape, k.output.trans h.output, Nat.le_trans h.size k.size, fun i hi hn => (k.block i (Nat.lt_of_lt_of_le hi h.size) hn).trans (h.block i hi hn)⟩
theorem But.of_below {fp : List Nat} {w w' : World} (h : Below w.heap.size w w') : But fp w w' := ⟨h.os, h.tape, h.output, h.size, fun k hk _ => h.block k hk⟩
theorem Enc.ow_but {α : Type} (E : Enc α) {w w' : World} {cs : List Value} {a : α} {fp fq : List Nat} (h : E.ow w cs a fp) (hb : But fq w w') (hd : ∀ b, b ∈ fp → b ∉ fq) : E.ow w' cs a fp :=
  E.ow_frame (fun b hm => hb.block b (E.ow_lt h b hm) (hd b hm)) h
theorem Blk.but {w w' : World} {b : Nat} {cs : List Value} {ty : TypeId} (h : Blk w b cs ty) {fq : List Nat} (hb : But fq w w') (hd : b ∉ fq) : Blk w' b cs ty := h.same (hb.block b h.lt hd)

theorem Below.lt {B : Nat} {w w' : World} (h : Below B w w') {b : Nat} (hb : b < w.heap.size) : b < w'.heap.size := Nat.lt_of_lt_of_le hb h.size

end Go.Proofs.YtnkhgfdlehhjmaaDoor

/-
  Plain lemmas: append on a slice of the call's own, its elements of whatever type ('Enc'); where the new slice lies. No program is named here.
-/
namespace Go.Proofs.YtnkhgfdlehhjmaaDoor
open Go.RowKit

/-- What an append's second argument yields: nothing (nil), or so many elements behind an address. -/
def SrcS (w : World) (size : Nat) (x : Value) (m : Nat) (news : List Value) : Prop :=
  (∃ c, x = .slice none 0 c ∧ m = 0 ∧ news = []) ∨
    (∃ ad c, x = .slice (some ad) m c ∧ news.length = m * size ∧ (∀ j u, news[j]? = some u → w.cell? (ad.add j) = some u) ∧ ∀ u, u ∈ news → u.oneCell' = true)

theorem run_append_place {P : Program} (w : World) (t ty e : TypeId) (i : TypeInfo) (z : Value) (size bytes : Nat) (ht : P.underlying t = some (.slice e)) (hi : P.info? e = some i) (hz : i.zero = some z)
    (hsize : i.size = size) (hby : i.bytes = bytes) (hzs : z.cells.size = size) (hsz : 0 < size) (v : Value) (n : Nat) (xs : List Value) (hown : w.ownsRow 0 e size v n xs)
    (x : Value) (m : Nat) (news : List Value) (hs : SrcS w size x m news) (h63 : n + m ≤ maxLen) (hbytes : (n + m) * bytes ≤ 140737488355328) :
    ∃ v' w', (Builtin.append_ #[t, t] ty #[v, x]).run P w = .ok v' w' ∧ w'.ownsRow 0 e size v' (n + m) (xs ++ news) ∧ w.grownBy w' v.ownBlock ∧ (v'.ownBlock = v.ownBlock ∨ ∃ g, v'.ownBlock = some g ∧ w.heap.size ≤ g) ∧
      (v' = .slice none 0 0 ↔ v = .slice none 0 0 ∧ m = 0) := by
  rcases hs with ⟨c, rfl, rfl, rfl⟩ | ⟨ad, c, rfl, hl, hnews, h1⟩
  · refine ⟨v, w, ?_, by simpa using hown, ⟨rfl, rfl, rfl, Nat.le_refl _, fun _ _ _ => rfl⟩, .inl rfl, by simp⟩
    have hS : Src P size t (.slice none 0 c) 0 [] w := Src.ofNil w ht c
    subst hsize
    rcases hown.2 with ⟨rfl, rfl⟩ | ⟨g, cap, cur, rfl, _, hg, hnc, hcm, hcs, htake⟩
    · simp [Builtin.append_, run_underlying ht, sizeOf, typeInfo, hi, Builtin.lenOf, Builtin.firstCells]
    · have := run_append_room_src (P := P) w t t ty e i ht hi g 0 n cap (.slice none 0 c) 0 [] hS (by omega) (fun j hj => by simp at hj) (fun j hj => by simp at hj)
      simpa [World.setCells] using this
  · obtain ⟨v', w', hr, h2, h3, h4⟩ := run_append_own (P := P) w 0 t ty e i z size bytes ht hi hz hsize hby hzs hsz v n xs hown ad m c news hl hnews h1 h63 hbytes (Nat.zero_le _)
    refine ⟨v', w', hr, h2, h3, ?_, h4⟩
    rcases hown.2 with ⟨rfl, rfl⟩ | ⟨g, cap, cur, rfl, _, hg, hnc, hcm, hcs, htake⟩
    · have hn : w.ownsRow w.heap.size e size (.slice none 0 0) 0 xs := ⟨hown.1, .inl ⟨rfl, rfl⟩⟩
      obtain ⟨v'', w'', hr', k2, -, -⟩ := run_append_own (P := P) w w.heap.size t ty e i z size bytes ht hi hz hsize hby hzs hsz _ 0 xs hn ad m c news hl hnews h1 h63 hbytes (Nat.le_refl _)
      rw [hr] at hr'
      obtain ⟨rfl, rfl⟩ : v' = v'' ∧ w' = w'' := by simpa using hr'
      rcases hv : v'.ownBlock with _ | g
      · exact .inl rfl
      · exact .inr ⟨g, rfl, (k2.lt g hv).1⟩
    · subst hsize
      by_cases hroom : n + m ≤ cap
      · have hfit : n * i.size + news.length ≤ cur.size := by rw [hl, hcs, ← Nat.add_mul]; exact Nat.mul_le_mul_right _ hroom
        have hr' := run_append_room (P := P) w t ty e i ht hi g n cap cur hg ad m c news hl hnews h1 hroom hfit
        rw [hr] at hr'
        obtain ⟨rfl, -⟩ : v' = _ ∧ w' = _ := by simpa using hr'
        exact .inl rfl
      · have holds : ∀ j u, xs[j]? = some u → w.cell? ((⟨g, 0, none⟩ : Addr).add j) = some u := hown.cells (g := g) rfl
        subst hby
        have hsm : n + m ≤ 9223372036854775807 := by simp only [maxLen] at h63; omega
        have hr' := run_append_grow (P := P) w t ty e i z ht hi hz ⟨g, 0, none⟩ n cap xs hown.1 holds ad m c news hl hnews (by omega) (by omega) (growslice_fits (by omega) hbytes)
        rw [hr] at hr'
        obtain ⟨rfl, -⟩ : v' = _ ∧ w' = _ := by simpa using hr'
        exact .inr ⟨_, rfl, Nat.le_refl _⟩

/-- append on a slice of one's own, the new elements with blocks of their own. -/
theorem own_append {α : Type} {E : Enc α} {ty : TypeId} {P : Program} (w : World) (t ry : TypeId) (i : TypeInfo) (z : Value) (bytes : Nat) (ht : P.underlying t = some (.slice ty)) (hi : P.info? ty = some i) (hz : i.zero = some z)
    (hsize : i.size = E.size) (hby : i.bytes = bytes) (hzs : z.cells.size = E.size) (hsz : 0 < E.size) {v : Value} {l : List α} {fp : List Nat} (hown : (sliceE E ty).ow w [v] l fp)
    (x : Value) {ys : List α} {css : List (List Value)} {fys : List (List Nat)} (hys : OwAll E w ys css fys) (hs : SrcS w E.size x ys.length css.flatten) (hd : (fp ++ fys.flatten).Nodup)
    (h63 : l.length + ys.length ≤ maxLen) (hbytes : (l.length + ys.length) * bytes ≤ 140737488355328) :
    ∃ v' w' fp', (Builtin.append_ #[t, t] ry #[v, x]).run P w = .ok v' w' ∧ (sliceE E ty).ow w' [v'] (l ++ ys) fp' ∧ fp'.Nodup ∧ (∀ b, b ∈ fp' → b ∈ fp ∨ b ∈ fys.flatten ∨ w.heap.size ≤ b) ∧ But fp w w' ∧
      (v' = .slice none 0 0 ↔ v = .slice none 0 0 ∧ ys.length = 0) := by
  obtain ⟨v0, xss, fps, hv, h1, h2, rfl⟩ := hown
  obtain rfl : v = v0 := by simpa using hv
  obtain ⟨v', w', hr, k1, k2, k3, k4⟩ := run_append_place (P := P) w t ry ty i z E.size bytes ht hi hz hsize hby hzs hsz v l.length xss.flatten h2 x ys.length css.flatten hs h63 hbytes
  have hlt1 := h1.lt
  have hlt2 := hys.lt
  rw [List.append_assoc, List.nodup_append] at hd
  obtain ⟨n1, n2, n3⟩ := hd
  have hfr : ∀ b, b ∈ fps.flatten ++ fys.flatten → w'.heap[b]? = w.heap[b]? := by
    intro b hb
    have hbl : b < w.heap.size := by
      rcases List.mem_append.1 hb with h | h
      · exact hlt1 b h
      · exact hlt2 b h
    refine k2.block b hbl (fun e => ?_)
    exact n3 b (by rw [← e]; simp) b hb rfl
  refine ⟨v', w', v'.ownBlock.toList ++ (fps ++ fys).flatten, hr, ⟨v', xss ++ css, fps ++ fys, rfl, ?_, ?_, rfl⟩, ?_, ?_, ?_, k4⟩
  · exact (h1.frame fun b hb => hfr b (List.mem_append_left _ hb)).append (hys.frame fun b hb => hfr b (List.mem_append_right _ hb))
  · rw [List.length_append, List.flatten_append]; exact k1
  · rw [List.nodup_append, List.flatten_append]
    refine ⟨nodup_option _, n2, fun a ha b hb e => ?_⟩
    subst e
    rcases k3 with k3 | ⟨g, k3, hg⟩
    · rw [k3] at ha; exact n3 a ha a hb rfl
    · rw [k3] at ha
      have hag : a = g := by simpa using ha
      have hbl : a < w.heap.size := by
        rcases List.mem_append.1 hb with h | h
        · exact hlt1 a h
        · exact hlt2 a h
      omega
  · intro b hb
    rw [List.flatten_append] at hb
    rcases List.mem_append.1 hb with hb | hb
    · rcases k3 with k3 | ⟨g, k3, hg⟩
      · rw [k3] at hb; exact .inl (List.mem_append_left _ hb)
      · rw [k3] at hb
        have : b = g := by simpa using hb
        subst this
        exact .inr (.inr hg)
    · rcases List.mem_append.1 hb with hb | hb
      · exact .inl (List.mem_append_right _ hb)
      · exact .inr (.inl hb)
  · refine ⟨k2.os, k2.tape, k2.output, k2.size, fun k hk hn => k2.block k hk (fun e => hn ?_)⟩
    exact List.mem_append_left _ (by rw [← e]; simp)

/-- The law for the walk. -/
theorem wpList_append_enc {α : Type} {E : Enc α} {ty : TypeId} {P : Program} {w : World} {ops : Array Oper} {rest : List Oper} {o : Oper} {a : Act} {Q : Exit → Act → World → Prop} (hgd : o.guard = none) (s x : Operand) (t : TypeId)
    (ho : o.op = .call { callee := .builtin .append, args := #[s, x], argTypes := #[t, t] })
    (i : TypeInfo) (z : Value) (bytes : Nat) (ht : P.underlying t = some (.slice ty)) (hi : P.info? ty = some i) (hz : i.zero = some z)
    (hsize : i.size = E.size) (hby : i.bytes = bytes) (hzs : z.cells.size = E.size) (hsz : 0 < E.size) {v : Value} {l : List α} {fp : List Nat} (hv : a.eval s = v) (hown : (sliceE E ty).ow w [v] l fp)
    {ys : List α} {css : List (List Value)} {fys : List (List Nat)} (hys : OwAll E w ys css fys) (hs : SrcS w E.size (a.eval x) ys.length css.flatten) (hd : (fp ++ fys.flatten).Nodup)
    (h63 : l.length + ys.length ≤ maxLen) (hbytes : (l.length + ys.length) * bytes ≤ 140737488355328)
    (h : ∀ v' w' fp', (sliceE E ty).ow w' [v'] (l ++ ys) fp' → fp'.Nodup → (∀ b, b ∈ fp' → b ∈ fp ∨ b ∈ fys.flatten ∨ w.heap.size ≤ b) → But fp w w' → wpList P ops Q rest (a.put o.dst v') w') : wpList P ops Q (o :: rest) a w := by
  obtain ⟨v', w', fp', hr, k1, k2, k3, k4, -⟩ := own_append (P := P) w t o.type i z bytes ht hi hz hsize hby hzs hsz hown (a.eval x) hys hs hd h63 hbytes
  refine wpList_plain hgd fun K hK => ?_
  unfold Oper.wp execOp
  simp only [ho, resolve, invoke, builtin, Sem.run_bind, Sem.run_pure, Result.andThen_ok, List.map_toArray, List.map_cons, List.map_nil, hv, hr]
  exact hK _ _ (h v' w' fp' k1 k2 k3 k4)

theorem SrcS.one {w : World} {size : Nat} {ad : Addr} {c : Nat} {cs : List Value} (hl : cs.length = size) (hc : ∀ j u, cs[j]? = some u → w.cell? (ad.add j) = some u) (h1 : ∀ u, u ∈ cs → u.oneCell' = true) : SrcS w size (.slice (some ad) 1 c) 1 [cs].flatten :=
  .inr ⟨ad, c, rfl, by simp [hl], by simpa using hc, by simpa using h1⟩

/-- What a slice of readable elements without blocks of their own yields. -/
theorem src_of_rd {α : Type} {E : Enc α} {ty : TypeId} {w : World} {B : Nat} {v : Value} {l : List α} (c : α → List Value) (inv : ∀ x cs, E.rd w B cs x → cs = c x ∧ E.ow w cs x []) (h1 : ∀ x u, u ∈ c x → u.oneCell' = true) (h : (sliceE E ty).rd w B [v] l) :
    ∃ css fys, OwAll E w l css fys ∧ fys.flatten = [] ∧ SrcS w E.size v l.length css.flatten := by
  obtain ⟨a, cap, hv, e1, e2, e3, e4⟩ := h
  obtain rfl : v = .slice a l.length cap := by simpa using hv
  have hall : ∀ x, x ∈ l → E.ow w (c x) x [] := by
    intro x hx
    obtain ⟨k, hk, rfl⟩ := List.getElem_of_mem hx
    obtain ⟨b, o, xs, -, -, hr, -⟩ := e4 k _ (List.getElem?_eq_getElem hk)
    obtain ⟨rfl, h⟩ := inv _ _ hr
    exact h
  have key : ∀ l : List α, (∀ x, x ∈ l → E.ow w (c x) x []) → OwAll E w l (l.map c) (l.map fun _ => []) := by
    intro l
    induction l with
    | nil => intro _; exact .nil
    | cons a l ih => intro h; exact .cons (h a (by simp)) (ih fun x hx => h x (by simp [hx]))
  refine ⟨l.map c, l.map fun _ => [], key l hall, by simp, ?_⟩
  have hlen : ∀ x, x ∈ l → (c x).length = E.size := fun x hx => E.rd_len (E.ow_rd (B := 0) (fun b hb => by cases hb) (hall x hx))
  rcases a with _ | ad
  · have : l = [] := List.eq_nil_of_length_eq_zero (by have := e3 rfl; omega)
    subst this
    exact .inl ⟨cap, rfl, rfl, rfl⟩
  · refine .inr ⟨ad, cap, rfl, ?_, ?_, ?_⟩
    · have := (key l hall).flat; exact this
    · intro j u hu
      have hj : j < (l.map c).flatten.length := (List.getElem?_eq_some_iff.1 hu).1
      have hfl := (key l hall).flat
      rw [hfl] at hj
      have hpos : 0 < E.size := by
        rcases Nat.eq_zero_or_pos E.size with h | h
        · rw [h, Nat.mul_zero] at hj; omega
        · exact h
      have hk : j / E.size < l.length := Nat.div_lt_of_lt_mul (by rw [Nat.mul_comm]; exact hj)
      obtain ⟨b, o, xs, ha, -, hr, hc⟩ := e4 (j / E.size) _ (List.getElem?_eq_getElem hk)
      obtain ⟨rfl, -⟩ := inv _ _ hr
      obtain rfl : ad = ⟨b, o, none⟩ := by simpa using ha
      have hno : ∀ b, b ∈ (l.map fun _ => ([] : List Nat)).flatten → b < w.heap.size := by
        have e : (l.map fun _ => ([] : List Nat)).flatten = [] := by simp
        rw [e]; intro b hb; cases hb
      obtain ⟨xs', f', q1, -, -, -, q5⟩ := (key l hall).rdAt (B := w.heap.size) hno (j / E.size) _ (List.getElem?_eq_getElem hk)
      have hxs : xs' = c l[j / E.size] := by
        rw [List.getElem?_map, List.getElem?_eq_getElem hk] at q1
        simpa using q1.symm
      subst hxs
      have hm : j % E.size < (c l[j / E.size]).length := by rw [hlen _ (List.getElem_mem hk)]; exact Nat.mod_lt _ hpos
      have e := q5 (j % E.size) _ (List.getElem?_eq_getElem hm)
      have hj2 : j / E.size * E.size + j % E.size = j := by rw [Nat.mul_comm]; exact Nat.div_add_mod j E.size
      rw [hj2, hu] at e
      have := hc (j % E.size) _ (List.getElem?_eq_getElem hm)
      rw [hj2] at this
      rw [Addr.add_lit, this]
      exact e.symm
    · intro u hu
      obtain ⟨cs, hcs, hu⟩ := List.mem_flatten.1 hu
      obtain ⟨x, hx, rfl⟩ := List.mem_map.1 hcs
      exact h1 x u hu

/-- append of one element. -/
theorem wpList_append_one {α : Type} {E : Enc α} {ty : TypeId} {P : Program} {w : World} {ops : Array Oper} {rest : List Oper} {o : Oper} {a : Act} {Q : Exit → Act → World → Prop} (hgd : o.guard = none) (s x : Operand) (t : TypeId)
    (ho : o.op = .call { callee := .builtin .append, args := #[s, x], argTypes := #[t, t] })
    (i : TypeInfo) (z : Value) (bytes : Nat) (ht : P.underlying t = some (.slice ty)) (hi : P.info? ty = some i) (hz : i.zero = some z)
    (hsize : i.size = E.size) (hby : i.bytes = bytes) (hzs : z.cells.size = E.size) (hsz : 0 < E.size) (hb64 : bytes ≤ 64) {v : Value} {l : List α} {fp : List Nat} (hv : a.eval s = v) (hown : (sliceE E ty).ow w [v] l fp) (hn : fp.Nodup)
    {g c : Nat} (hx : a.eval x = .slice (some ⟨g, 0, none⟩) 1 c) {y : α} {cs : List Value} {fy : List Nat} (hc : ∀ j u, cs[j]? = some u → w.cell? ⟨g, j, none⟩ = some u) (h1 : ∀ u, u ∈ cs → u.oneCell' = true) (hy : E.ow w cs y fy)
    (hny : fy.Nodup) (hd : ∀ b, b ∈ fy → b ∉ fp) (hlen : l.length ≤ 1000000000000)
    (h : ∀ v' w' fp', (sliceE E ty).ow w' [v'] (l ++ [y]) fp' → fp'.Nodup → (∀ b, b ∈ fp' → b ∈ fp ∨ b ∈ fy ∨ w.heap.size ≤ b) → But fp w w' → wpList P ops Q rest (a.put o.dst v') w') : wpList P ops Q (o :: rest) a w := by
  have hcl : cs.length = E.size := E.rd_len (E.rd_ow hy)
  have hb : (l.length + [y].length) * bytes ≤ 140737488355328 := by
    have : (l.length + [y].length) * bytes ≤ 1000000000001 * 64 := Nat.mul_le_mul (by simp; omega) hb64
    omega
  refine wpList_append_enc (E := E) (ty := ty) hgd s x t ho i z bytes ht hi hz hsize hby hzs hsz hv hown (OwAll.one hy) ?_ ?_ (by simp [maxLen]; omega) hb (fun v' w' fp' k1 k2 k3 k4 => h v' w' fp' k1 k2 (fun b hb => by have := k3 b hb; simpa using this) k4)
  · rw [hx]
    exact SrcS.one (ad := ⟨g, 0, none⟩) hcl (fun j u hu => by rw [Addr.add_lit]; simpa using hc j u hu) h1
  · rw [List.nodup_append]
    exact ⟨hn, by simpa using hny, fun p hp q hq e => hd q (by simpa using hq) (e ▸ hp)⟩

/-- A slice whose elements, of one cell each, have just been written into a block. -/
theorem ow_lit {α : Type} {E : Enc α} {ty : TypeId} {w : World} {g : Nat} {l : List α} (f : α → Value) (hE : E.size = 1) (hf : ∀ x, x ∈ l → E.ow w [f x] x []) (h : Blk w g (l.map f) ty) (hl : l.length ≤ maxLen) :
    (sliceE E ty).ow w [.slice (some ⟨g, 0, none⟩) l.length l.length] l [g] :=
  ow_flat (base := 0) f hE hf ⟨by simp, .inr ⟨g, l.length, (l.map f).toArray, rfl, Nat.zero_le _, h, Nat.le_refl _, hl, by simp, by rw [List.take_of_length_le] <;> simp⟩⟩

theorem ow_nil {α : Type} (E : Enc α) (ty : TypeId) (w : World) : (sliceE E ty).ow w [.slice none 0 0] [] [] := ⟨_, [], [], rfl, .nil, by simpa using World.ownsRow_nil w 0 ty E.size, rfl⟩

theorem Blk.set3 {w w' : World} {b : Nat} {cs : List Value} {ty : TypeId} (h : Blk w b cs ty) (hl : cs.length = 3) {v0 v1 v2 : Value} (hW : ((w.setCell ⟨b, 0, none⟩ v0).setCell ⟨b, 1, none⟩ v1).setCell ⟨b, 2, none⟩ v2 = w') :
    Blk w' b [v0, v1, v2] ty ∧ But [b] w w' := by
  subst hW
  refine ⟨?_, (((But.refl _ _).setCell (by simp) _).setCell (by simp) _).setCell (by simp) _⟩
  match cs, hl with
  | [_, _, _], _ => exact ((h.set 0 _).set 1 _).set 2 _

theorem Blk.set4 {w w' : World} {b : Nat} {cs : List Value} {ty : TypeId} (h : Blk w b cs ty) (hl : cs.length = 4) {v0 v1 v2 v3 : Value} (hW : (((w.setCell ⟨b, 0, none⟩ v0).setCell ⟨b, 1, none⟩ v1).setCell ⟨b, 2, none⟩ v2).setCell ⟨b, 3, none⟩ v3 = w') :
    Blk w' b [v0, v1, v2, v3] ty ∧ But [b] w w' := by
  subst hW
  refine ⟨?_, ((((But.refl _ _).setCell (by simp) _).setCell (by simp) _).setCell (by simp) _).setCell (by simp) _⟩
  match cs, hl with
  | [_, _, _, _], _ => exact (((h.set 0 _).set 1 _).set 2 _).set 3 _

theorem Enc.ow_set {α : Type} (E : Enc α) {w : World} {cs : List Value} {x : α} {fp : List Nat} (h : E.ow w cs x fp) {a : Addr} (ha : ∀ b, b ∈ fp → b ≠ a.block) (v : Value) : E.ow (w.setCell a v) cs x fp :=
  E.ow_frame (fun b hb => Below.heap_setCell _ _ _ _ (ha b hb)) h

theorem bd0 : (-9223372036854775808 : Int) ≤ 0 ∧ (0 : Int) ≤ 9223372036854775807 := by decide
theorem bd1 : (-9223372036854775808 : Int) ≤ 1 ∧ (1 : Int) ≤ 9223372036854775807 := by decide

theorem one_mem {v : Value} (h : v.oneCell' = true) : ∀ u, u ∈ [v] → u.oneCell' = true := by
  intro u hu
  have e : u = v := by simpa using hu
  rw [e]; exact h

/-- A new element that is itself a slice just written, stored in a block of one cell. -/
theorem lit_slice {α : Type} {E : Enc α} {ty tb : TypeId} (w : World) (l : List α) (f : α → Value) (hE : E.size = 1) (hf : ∀ (w : World) x, x ∈ l → E.ow w [f x] x []) (hl : l.length ≤ maxLen) {W : World}
    (hW : W = (w.alloc (.cells (l.map f).toArray ty)).alloc (.cells #[.slice (some ⟨w.heap.size, 0, none⟩) l.length l.length] tb)) :
    (sliceE E ty).ow W [.slice (some ⟨w.heap.size, 0, none⟩) l.length l.length] l [w.heap.size] ∧ (∀ j u, [Value.slice (some ⟨w.heap.size, 0, none⟩) l.length l.length][j]? = some u → W.cell? ⟨w.heap.size + 1, j, none⟩ = some u) ∧
      Below w.heap.size w W ∧ W.heap.size = w.heap.size + 1 + 1 := by
  obtain ⟨h0, h1, h2⟩ := blk2 hW.symm
  refine ⟨ow_lit f hE (hf W) (by simpa using h0) hl, fun j u hu => h1.cell j (by simpa using hu), h2, by rw [hW]; simp⟩

/-- A call that hands back a struct of new memory and a code. -/
abbrev MakesC {α : Type} (E : Enc α) (x : α × Int) (w : World) (e : Ending) (w' : World) : Prop :=
  ∃ cs fp, e = .returned (.tuple #[.agg cs.toArray, .int .i64 x.2]) ∧ E.ow w' cs x.1 fp ∧ fp.Nodup ∧ (∀ b, b ∈ fp → w.heap.size ≤ b) ∧ Below w.heap.size w w'

end Go.Proofs.YtnkhgfdlehhjmaaDoor

/-
  Plain lemmas: what the form's own reading of an argument ('DataW.trod') gives: the argument can be read as a value of a Lean type ('Enc.rd'). No program is named here.
-/
namespace Go.Proofs.YtnkhgfdlehhjmaaDoor
open Go.RowKit Go.ChangeShapes Go.WideShapes

/-- Whatever the form reads at type 't' is a value of E's type. -/
def Opens (P : Program) {α : Type} (E : Enc α) (t : TypeId) : Prop :=
  ∀ (H : Type) (enc : TypeId × Value → H) (w : World) (fuel : Nat) (cs : List Value) (x : DataW H × List MemPlace),
    DataW.trod enc P w 0 (fun _ => true) true fuel t cs = some x → ∃ a, E.rd w w.heap.size cs a

section
variable {P : Program} {t : TypeId}

theorem wf_bounds {a : Int} (h : (Lit.int .i64 a).wf = true) : -9223372036854775808 ≤ a ∧ a ≤ 9223372036854775807 := by
  simpa [Lit.wf, IntKind.min, IntKind.max, IntKind.bits, IntKind.signed] using h

theorem opens_int (h : P.underlying t = some (.int .i64)) : Opens P intE t := by
  intro H enc w fuel cs x hx
  obtain ⟨n, rfl, rfl, hw⟩ := DataW.trod_int h hx
  exact ⟨n, rfl, wf_bounds hw⟩

theorem opens_bool (h : P.underlying t = some .bool) : Opens P boolE t := by
  intro H enc w fuel cs x hx
  obtain ⟨n, rfl, rfl⟩ := DataW.trod_bool h hx
  exact ⟨n, rfl⟩

theorem opens_str (h : P.underlying t = some .string) : Opens P strE t := by
  intro H enc w fuel cs x hx
  obtain ⟨n, rfl, rfl, hs⟩ := DataW.trod_string h hx
  exact ⟨n, rfl, hs⟩

theorem opens_via {α β : Type} {E : Enc β} {f : α → β} (g : β → α) (hg : ∀ b, f (g b) = b) (h : Opens P E t) : Opens P (viaE E f) t := by
  intro H enc w fuel cs x hx
  obtain ⟨b, hb⟩ := h H enc w fuel cs x hx
  exact ⟨g b, by show E.rd _ _ _ (f (g b)); rw [hg]; exact hb⟩

theorem cells_get : ∀ {w : World} {a : Addr} {n : Nat} {cs : List Value}, w.cells? 0 a n = some cs → cs.length = n ∧ ∀ j v, cs[j]? = some v → w.cell? (a.add j) = some v := by
  intro w a n cs h
  unfold World.cells? at h
  rw [if_pos (Nat.zero_le _)] at h
  refine ⟨by simpa using mapM_some_length h, fun j v hj => ?_⟩
  have hj' : j < n := by have := (List.getElem?_eq_some_iff.1 hj).1; have h2 : cs.length = n := (by simpa using mapM_some_length h); omega
  have := mapM_some_get h j j (by simp [hj'])
  rw [this, hj]

theorem opens_slice {α : Type} {E : Enc α} {e : TypeId} (h : P.underlying t = some (.slice e)) (he : Opens P E e) (hs : P.cellsOf e = E.size) (hpos : 0 < E.size) : Opens P (sliceE E e) t := by
  intro H enc w fuel cs x hx
  rcases Deep.open_slice h hx with ⟨rfl, _⟩ | ⟨a, len, cap, m, n, D, Pl, rfl, _, hl, hm, hmm, _, hel⟩
  · exact ⟨[], none, 0, rfl, Nat.le_refl _, Nat.zero_le _, fun _ => rfl, fun i x hx => by simp at hx⟩
  · have hcap : m = cap := by simpa using hmm
    have hA : ∀ i, i < len → ∃ p : List Value × α, w.cells? 0 (a.add (i * E.size)) E.size = some p.1 ∧ E.rd w w.heap.size p.1 p.2 := by
      intro i hi
      obtain ⟨cs', h1, h2⟩ := hel i (by omega)
      obtain ⟨y, hy⟩ := he _ _ _ _ _ _ h2
      rw [hs] at h1
      exact ⟨(cs', y), h1, hy⟩
    by_cases h0 : len = 0
    · subst h0
      exact ⟨[], some a, cap, rfl, hl, hm, (fun h => by cases h), fun i x hx => by simp at hx⟩
    · obtain ⟨⟨c0, y0⟩, _⟩ := hA 0 (by omega)
      haveI : Inhabited (List Value × α) := ⟨(c0, y0)⟩
      obtain ⟨f, hf⟩ := Deep.choose_lt hA
      refine ⟨(List.range len).map fun i => (f i).2, some a, cap, by simp, by simpa using hl, hm, (fun h => by cases h), fun i x hx => ?_⟩
      have hi : i < len := by have := (List.getElem?_eq_some_iff.1 hx).1; simpa using this
      have hxe : x = (f i).2 := by
        rw [List.getElem?_map, List.getElem?_range hi] at hx
        simpa using hx.symm
      subst hxe
      obtain ⟨h1, h2⟩ := hf i hi
      obtain ⟨hlen, hget⟩ := cells_get h1
      have hsp : ∃ b o, a = ⟨b, o, none⟩ ∧ b < w.heap.size := by
        have hc0 : ∃ v, (f 0).1[0]? = some v := by
          obtain ⟨h1', _⟩ := hf 0 (by omega)
          have := (cells_get h1').1
          exact ⟨_, List.getElem?_eq_getElem (by omega)⟩
        obtain ⟨v, hv⟩ := hc0
        have := (cells_get (hf 0 (by omega)).1).2 0 v hv
        simp only [Nat.zero_mul, Addr.add, if_true] at this
        have h3 := World.cell?_spot this
        have h4 := World.block_lt_of_cell? w _ this
        obtain ⟨b, o, s⟩ := a
        exact ⟨b, o, by simpa using h3, h4⟩
      obtain ⟨b, o, rfl, hb⟩ := hsp
      refine ⟨b, o, (f i).1, rfl, hb, h2, fun j v hv => ?_⟩
      have := hget j v hv
      rw [Deep.add_add] at this
      simpa [Addr.add_lit] using this

/-- The fields of a struct, one behind the other. -/
inductive OpensF (P : Program) : {α : Type} → List Field → Nat → Enc α → Prop
  | last {α : Type} {E : Enc α} {f : Field} {off : Nat} : Opens P E f.type → f.offset = off → P.cellsOf f.type = E.size → OpensF P [f] off E
  | cons {α β : Type} {E : Enc α} {F : Enc β} {f : Field} {fs : List Field} {off : Nat} : Opens P E f.type → f.offset = off → P.cellsOf f.type = E.size → OpensF P fs (off + E.size) F →
      OpensF P (f :: fs) off (pairE E F)

theorem OpensF.rd {α : Type} {fs : List Field} {off : Nat} {E : Enc α} (h : OpensF P fs off E) {H : Type} {enc : TypeId × Value → H} {w : World} {n : Nat} {cs : List Value}
    (hf : ∀ f, f ∈ fs → ∃ x, DataW.trod enc P w 0 (fun _ => true) true n f.type ((cs.drop f.offset).take (P.cellsOf f.type)) = some x) : ∃ a, E.rd w w.heap.size ((cs.drop off).take E.size) a := by
  induction h with
  | @last α E f off h1 h2 h3 =>
    obtain ⟨x, hx⟩ := hf f (by simp)
    rw [h2, h3] at hx
    exact h1 _ _ _ _ _ _ hx
  | @cons α β E F f fs off h1 h2 h3 h4 ih =>
    obtain ⟨x, hx⟩ := hf f (by simp)
    rw [h2, h3] at hx
    obtain ⟨a, ha⟩ := h1 _ _ _ _ _ _ hx
    obtain ⟨b, hb⟩ := ih (fun g hg => hf g (by simp [hg]))
    refine ⟨(a, b), _, _, ?_, ha, hb⟩
    show List.take (E.size + F.size) _ = _
    rw [List.take_add, List.drop_drop]

theorem opens_struct {α : Type} {E : Enc α} {fs : Array Field} (h : P.underlying t = some (.struct fs)) (hs : P.cellsOf t = E.size) (hf : OpensF P fs.toList 0 E) : Opens P E t := by
  intro H enc w fuel cs x hx
  obtain ⟨xs, n, _, rfl, hl, hlen, hg⟩ := DataW.trod_struct h hx
  obtain ⟨a, ha⟩ := hf.rd (enc := enc) (w := w) (n := n) (cs := cs) (fun f hm => by
    obtain ⟨i, hi, he⟩ := List.getElem_of_mem hm
    have h1 := hg i f (by simp [← he])
    rw [h1]
    have : i < xs.length := by rw [hlen]; simpa using hi
    exact ⟨_, List.getElem?_eq_getElem this⟩)
  refine ⟨a, ?_⟩
  rw [List.drop_zero, ← hs, ← hl, List.take_length] at ha
  exact ha
end

end Go.Proofs.YtnkhgfdlehhjmaaDoor

/-
  The program's structs as Lean structures, and how they lie in cells (written by a program of this claim's own, gen_structs.py).
-/
namespace Go.Proofs.YtnkhgfdlehhjmaaDoor
open Go.RowKit

structure Move where
  to : Int
  dir : Int
deriving DecidableEq, Inhabited

structure PMove where
  to : Int
  dir : Int
  does : Int
deriving DecidableEq, Inhabited

def moveE : Enc Move := viaE (pairE intE intE) fun m => (m.to, m.dir)
def pmoveE : Enc PMove := viaE (pairE intE (pairE intE intE)) fun m => (m.to, m.dir, m.does)

abbrev intsE : Enc (List Int) := sliceE intE 2

abbrev intssE : Enc (List (List Int)) := sliceE intsE 106

abbrev boolsE : Enc (List Bool) := sliceE boolE 4

abbrev strsE : Enc (List ByteArray) := sliceE strE 9

abbrev strssE : Enc (List (List ByteArray)) := sliceE strsE 47

abbrev movesE : Enc (List Move) := sliceE moveE 65

abbrev movessE : Enc (List (List Move)) := sliceE movesE 66

theorem one_of {cs : List Value} (h : cs.length = 1) : ∃ v, cs = [v] := by
  match cs, h with
  | [v], _ => exact ⟨v, rfl⟩

structure Rot where
  letters : Int
  start : Int
  next : List (List Int)
  fin : List Int
deriving DecidableEq, Inhabited

def rotsE : Enc Rot := viaE (pairE intE (pairE intE (pairE intssE (intsE)))) fun r => (r.letters, r.start, r.next, r.fin)

theorem rd_Rot {w : World} {B : Nat} {cs : List Value} {r : Rot} (h : rotsE.rd w B cs r) :
    ∃ v2 v3, cs = [.int .i64 r.letters, .int .i64 r.start, v2, v3] ∧ (-9223372036854775808 ≤ r.letters ∧ r.letters ≤ 9223372036854775807) ∧ (-9223372036854775808 ≤ r.start ∧ r.start ≤ 9223372036854775807) ∧ intssE.rd w B [v2] r.next ∧ intsE.rd w B [v3] r.fin := by
  obtain ⟨c0, _, rfl, ⟨rfl, b0⟩, c1, _, rfl, ⟨rfl, b1⟩, c2, c3, rfl, h2, h3⟩ := h
  obtain ⟨v2, rfl⟩ := one_of (Enc.rd_len _ h2)
  obtain ⟨v3, rfl⟩ := one_of (Enc.rd_len _ h3)
  exact ⟨v2, v3, rfl, b0, b1, h2, h3⟩

theorem ow_Rot {w : World} {v2 v3 : Value} {f2 f3 : List Nat} {r : Rot} (b0 : (-9223372036854775808 ≤ r.letters ∧ r.letters ≤ 9223372036854775807)) (b1 : (-9223372036854775808 ≤ r.start ∧ r.start ≤ 9223372036854775807))
    (h2 : intssE.ow w [v2] r.next f2) (h3 : intsE.ow w [v3] r.fin f3) : rotsE.ow w [.int .i64 r.letters, .int .i64 r.start, v2, v3] r (f2 ++ f3) :=
  ⟨_, _, [], _, rfl, rfl, ⟨⟨rfl, b0⟩, rfl⟩, ⟨_, _, [], _, rfl, rfl, ⟨⟨rfl, b1⟩, rfl⟩, ⟨_, _, _, _, rfl, rfl, h2, h3⟩⟩⟩

theorem ow_Rot_inv {w : World} {cs : List Value} {fp : List Nat} {r : Rot} (h : rotsE.ow w cs r fp) :
    ∃ v2 f2 v3 f3, cs = [.int .i64 r.letters, .int .i64 r.start, v2, v3] ∧ (-9223372036854775808 ≤ r.letters ∧ r.letters ≤ 9223372036854775807) ∧ (-9223372036854775808 ≤ r.start ∧ r.start ≤ 9223372036854775807) ∧ intssE.ow w [v2] r.next f2 ∧ intsE.ow w [v3] r.fin f3 ∧ fp = f2 ++ f3 := by
  obtain ⟨c0, d0, f0, g0, rfl, rfl, ⟨⟨rfl, b0⟩, rfl⟩, c1, d1, f1, g1, rfl, rfl, ⟨⟨rfl, b1⟩, rfl⟩, c2, d2, f2, g2, rfl, rfl, h2, h3⟩ := h
  obtain ⟨v2, rfl⟩ := one_of (Enc.rd_len _ (Enc.rd_ow _ h2))
  obtain ⟨v3, rfl⟩ := one_of (Enc.rd_len _ (Enc.rd_ow _ h3))
  exact ⟨v2, f2, v3, _, rfl, b0, b1, h2, h3, by simp⟩

structure Reader where
  letters : Int
  start : Int
  accept : List Bool
  next : List (List Int)
deriving DecidableEq, Inhabited

def readE : Enc Reader := viaE (pairE intE (pairE intE (pairE boolsE (intssE)))) fun r => (r.letters, r.start, r.accept, r.next)

theorem rd_Reader {w : World} {B : Nat} {cs : List Value} {r : Reader} (h : readE.rd w B cs r) :
    ∃ v2 v3, cs = [.int .i64 r.letters, .int .i64 r.start, v2, v3] ∧ (-9223372036854775808 ≤ r.letters ∧ r.letters ≤ 9223372036854775807) ∧ (-9223372036854775808 ≤ r.start ∧ r.start ≤ 9223372036854775807) ∧ boolsE.rd w B [v2] r.accept ∧ intssE.rd w B [v3] r.next := by
  obtain ⟨c0, _, rfl, ⟨rfl, b0⟩, c1, _, rfl, ⟨rfl, b1⟩, c2, c3, rfl, h2, h3⟩ := h
  obtain ⟨v2, rfl⟩ := one_of (Enc.rd_len _ h2)
  obtain ⟨v3, rfl⟩ := one_of (Enc.rd_len _ h3)
  exact ⟨v2, v3, rfl, b0, b1, h2, h3⟩

theorem ow_Reader {w : World} {v2 v3 : Value} {f2 f3 : List Nat} {r : Reader} (b0 : (-9223372036854775808 ≤ r.letters ∧ r.letters ≤ 9223372036854775807)) (b1 : (-9223372036854775808 ≤ r.start ∧ r.start ≤ 9223372036854775807))
    (h2 : boolsE.ow w [v2] r.accept f2) (h3 : intssE.ow w [v3] r.next f3) : readE.ow w [.int .i64 r.letters, .int .i64 r.start, v2, v3] r (f2 ++ f3) :=
  ⟨_, _, [], _, rfl, rfl, ⟨⟨rfl, b0⟩, rfl⟩, ⟨_, _, [], _, rfl, rfl, ⟨⟨rfl, b1⟩, rfl⟩, ⟨_, _, _, _, rfl, rfl, h2, h3⟩⟩⟩

theorem ow_Reader_inv {w : World} {cs : List Value} {fp : List Nat} {r : Reader} (h : readE.ow w cs r fp) :
    ∃ v2 f2 v3 f3, cs = [.int .i64 r.letters, .int .i64 r.start, v2, v3] ∧ (-9223372036854775808 ≤ r.letters ∧ r.letters ≤ 9223372036854775807) ∧ (-9223372036854775808 ≤ r.start ∧ r.start ≤ 9223372036854775807) ∧ boolsE.ow w [v2] r.accept f2 ∧ intssE.ow w [v3] r.next f3 ∧ fp = f2 ++ f3 := by
  obtain ⟨c0, d0, f0, g0, rfl, rfl, ⟨⟨rfl, b0⟩, rfl⟩, c1, d1, f1, g1, rfl, rfl, ⟨⟨rfl, b1⟩, rfl⟩, c2, d2, f2, g2, rfl, rfl, h2, h3⟩ := h
  obtain ⟨v2, rfl⟩ := one_of (Enc.rd_len _ (Enc.rd_ow _ h2))
  obtain ⟨v3, rfl⟩ := one_of (Enc.rd_len _ (Enc.rd_ow _ h3))
  exact ⟨v2, f2, v3, _, rfl, b0, b1, h2, h3, by simp⟩

structure Many where
  letters : Int
  starts : List Int
  accept : List Bool
  next : List (List (List Int))
deriving DecidableEq, Inhabited

structure Turner where
  letters : Int
  start : Int
  moves : List (List Move)
deriving DecidableEq, Inhabited

def turnE : Enc Turner := viaE (pairE intE (pairE intE (movessE))) fun r => (r.letters, r.start, r.moves)

theorem rd_Turner {w : World} {B : Nat} {cs : List Value} {r : Turner} (h : turnE.rd w B cs r) :
    ∃ v2, cs = [.int .i64 r.letters, .int .i64 r.start, v2] ∧ (-9223372036854775808 ≤ r.letters ∧ r.letters ≤ 9223372036854775807) ∧ (-9223372036854775808 ≤ r.start ∧ r.start ≤ 9223372036854775807) ∧ movessE.rd w B [v2] r.moves := by
  obtain ⟨c0, _, rfl, ⟨rfl, b0⟩, c1, c2, rfl, ⟨rfl, b1⟩, h2⟩ := h
  obtain ⟨v2, rfl⟩ := one_of (Enc.rd_len _ h2)
  exact ⟨v2, rfl, b0, b1, h2⟩

theorem ow_Turner {w : World} {v2 : Value} {f2 : List Nat} {r : Turner} (b0 : (-9223372036854775808 ≤ r.letters ∧ r.letters ≤ 9223372036854775807)) (b1 : (-9223372036854775808 ≤ r.start ∧ r.start ≤ 9223372036854775807))
    (h2 : movessE.ow w [v2] r.moves f2) : turnE.ow w [.int .i64 r.letters, .int .i64 r.start, v2] r (f2) :=
  ⟨_, _, [], _, rfl, rfl, ⟨⟨rfl, b0⟩, rfl⟩, ⟨_, _, [], _, rfl, rfl, ⟨⟨rfl, b1⟩, rfl⟩, h2⟩⟩

theorem ow_Turner_inv {w : World} {cs : List Value} {fp : List Nat} {r : Turner} (h : turnE.ow w cs r fp) :
    ∃ v2 f2, cs = [.int .i64 r.letters, .int .i64 r.start, v2] ∧ (-9223372036854775808 ≤ r.letters ∧ r.letters ≤ 9223372036854775807) ∧ (-9223372036854775808 ≤ r.start ∧ r.start ≤ 9223372036854775807) ∧ movessE.ow w [v2] r.moves f2 ∧ fp = f2 := by
  obtain ⟨c0, d0, f0, g0, rfl, rfl, ⟨⟨rfl, b0⟩, rfl⟩, c1, d1, f1, g1, rfl, rfl, ⟨⟨rfl, b1⟩, rfl⟩, h2⟩ := h
  obtain ⟨v2, rfl⟩ := one_of (Enc.rd_len _ (Enc.rd_ow _ h2))
  exact ⟨v2, _, rfl, b0, b1, h2, by simp⟩

structure Pebbler where
  letters : Int
  start : Int
  moves : List (List PMove)
deriving DecidableEq, Inhabited

structure Writer where
  turner : Turner
  out : List (List ByteArray)
deriving DecidableEq, Inhabited

def writE : Enc Writer := viaE (pairE turnE strssE) fun w => (w.turner, w.out)

theorem rd_Writer {w : World} {B : Nat} {cs : List Value} {r : Writer} (h : writE.rd w B cs r) :
    ∃ v2 v3, cs = [.int .i64 r.turner.letters, .int .i64 r.turner.start, v2, v3] ∧ turnE.rd w B [.int .i64 r.turner.letters, .int .i64 r.turner.start, v2] r.turner ∧ strssE.rd w B [v3] r.out := by
  obtain ⟨c0, c1, rfl, h0, h1⟩ := h
  obtain ⟨v2, rfl, b0, b1, h2⟩ := rd_Turner h0
  obtain ⟨v3, rfl⟩ := one_of (Enc.rd_len _ h1)
  exact ⟨v2, v3, rfl, h0, h1⟩

theorem ow_Writer {w : World} {c0 : List Value} {v3 : Value} {f0 f1 : List Nat} {r : Writer} (h0 : turnE.ow w c0 r.turner f0) (h1 : strssE.ow w [v3] r.out f1) : writE.ow w (c0 ++ [v3]) r (f0 ++ f1) := ⟨_, _, _, _, rfl, rfl, h0, h1⟩

end Go.Proofs.YtnkhgfdlehhjmaaDoor

/-
  Plain lemmas: a region that draws its order and whose callees leave all memory that was there as it was (they may make new blocks): one walk in the order of the text serves every order.
-/
namespace Go.Proofs.YtnkhgfdlehhjmaaDoor
open Go.RowKit

/-- w, with what u has beyond it. -/
def over (w u : World) : World := { heap := w.heap ++ u.heap.extract w.heap.size u.heap.size, tape := w.tape, drawn := u.drawn, os := w.os, output := w.output }

theorem below_over (w u : World) : Below w.heap.size w (over w u) :=
  ⟨rfl, rfl, rfl, by simp [over], fun k hk => by simp [over, Array.getElem?_append, hk]⟩

theorem over_eq {w u : World} (h : Below w.heap.size w u) : over w u = u := by
  have hh : w.heap ++ u.heap.extract w.heap.size u.heap.size = u.heap := by
    apply Array.ext_getElem?
    intro i
    rw [Array.getElem?_append]
    split
    · rename_i hi; exact (h.block i hi).symm
    · rename_i hi
      have hs := h.size
      rw [Array.getElem?_extract]
      split
      · rw [show w.heap.size + (i - w.heap.size) = i from by omega]
      · rename_i h2
        rw [Array.getElem?_eq_none (by omega)]
  obtain ⟨heap, tape, drawn, os, output⟩ := u
  unfold over
  simp only [World.mk.injEq, true_and]
  exact ⟨hh, h.tape.symm, h.os.symm, h.output.symm⟩

theorem wp_region_over {P : Program} {id : Nat} {Q : Exit → Act → World → Prop} {a : Act} {w : World} {l : List Oper} (hm : P.follows .mixedOrders = true) (hB : Region.lexB .any l.toArray = true)
    (h : wpQuiet P l.toArray (fun w' => ∃ u, w' = over w u) (fun a' => ∀ w', Below w.heap.size w w' → Q .normal a' w') l a) : (Code.region id l.toArray true).wp P Q a w := by
  refine wp_region_quiet (C := fun w' => ∃ u, w' = over w u) hm hB ⟨_, (over_eq (⟨rfl, rfl, rfl, Nat.le_refl _, fun _ _ => rfl⟩ : Below w.heap.size w { w with drawn := w.drawn + 1 })).symm⟩ ?_
  have hq : (fun a' => ∀ w', Below w.heap.size w w' → Q .normal a' w') = (fun a' => ∀ w', (∃ u, w' = over w u) → Q .normal a' w') := by
    funext a'
    apply propext
    constructor
    · rintro h w' ⟨u, rfl⟩; exact h _ (below_over w u)
    · intro h w' hb; exact h w' ⟨w', (over_eq hb).symm⟩
  rw [hq] at h
  simpa using h

/-- A callee that leaves all that was there as it was, met inside such a region. -/
theorem calls_over {P : Program} {f : FuncId} {args : Array Value} {w n : World} {v : Value}
    (h : Calls P f args (over w n) fun e w' => e = .returned v ∧ Below (over w n).heap.size (over w n) w') : Calls P f args (over w n) fun e w'' => e = .returned v ∧ ∃ m, w'' = over w m :=
  h.mono fun _ w' ⟨he, hb⟩ => ⟨he, w', (over_eq ((below_over w n).trans (hb.mono (below_over w n).size))).symm⟩

theorem calls_same {P : Program} {f : FuncId} {args : Array Value} {w n : World} {v : Value}
    (h : Calls P f args (over w n) fun e w' => e = .returned v ∧ over w n = w') : Calls P f args (over w n) fun e w'' => e = .returned v ∧ ∃ m, w'' = over w m :=
  h.mono fun _ w' ⟨he, hb⟩ => ⟨he, n, hb.symm⟩

/-- Memory that was there reads as it did. -/
theorem cell_over (w : World) : ∀ (u : World) (b o : Nat), b < w.heap.size → (over w u).cell? ⟨b, o, none⟩ = w.cell? ⟨b, o, none⟩ :=
  fun u b o hb => (below_over w u).cell (p := ⟨b, o, none⟩) hb

end Go.Proofs.YtnkhgfdlehhjmaaDoor

/-
  Plain lemmas for the laws' own helpers. No program is named here.
-/
namespace Go.Proofs.YtnkhgfdlehhjmaaDoor
open Go.RowKit

theorem take_succ_map {α : Type} (d : α) (f : α → Value) (l : List α) (k n : Nat) (z : Value) (hn : l.length = n) (hk : k < n) :
    (((l.take k).map f) ++ List.replicate (n - k) z).set k (f (l[k]?.getD d)) = ((l.take (k + 1)).map f) ++ List.replicate (n - (k + 1)) z := by
  subst hn
  rw [List.take_succ_eq_append_getElem hk, List.map_append, List.append_assoc]
  have hlen : ((l.take k).map f).length = k := by simp; omega
  rw [List.set_append_right _ _ (by omega), hlen, Nat.sub_self, show l.length - k = (l.length - (k + 1)) + 1 from by omega, List.replicate_succ]
  simp [List.getElem?_eq_getElem hk]

theorem beq_len {a b : Nat} (h : a = b) : ((a : Int) != (b : Int)) = false := by simp [h]
theorem bne_len {a b : Nat} (h : ¬ a = b) : ((a : Int) != (b : Int)) = true := by simp; omega

theorem ext_getD {α : Type} (d : α) {la lb : List α} (hl : la.length = lb.length) (h : ∀ i, i < la.length → la[i]?.getD d = lb[i]?.getD d) : la = lb := by
  apply List.ext_getElem hl
  intro i h1 h2
  have := h i h1
  simpa [List.getElem?_eq_getElem h1, List.getElem?_eq_getElem h2] using this

/-- What is left of a number behind t; -1 if that is too little. -/
def lim (t : Nat) (left : Int) : Int := if left < t then -1 else left - t

theorem lim_of_lt {t : Nat} {left : Int} (h : left < t) : lim t left = -1 := if_pos h
theorem lim_of_ge {t : Nat} {left : Int} (h : ¬ left < t) : lim t left = left - t := if_neg h

/-- The elements' own sizes. -/
def sumLen {α : Type} (l : List (List α)) : Nat := (l.map List.length).sum

theorem sumLen_take {α : Type} (l : List (List α)) (k : Nat) (x : List α) (h : l[k]? = some x) : sumLen (l.take (k + 1)) = sumLen (l.take k) + x.length := by
  obtain ⟨hk, rfl⟩ := List.getElem?_eq_some_iff.1 h
  rw [List.take_succ_eq_append_getElem hk]
  simp only [sumLen, List.map_append, List.sum_append, List.map_cons, List.map_nil, List.sum_cons, List.sum_nil, Nat.add_zero]

theorem sumLen_le {α : Type} (l : List (List α)) (k : Nat) : sumLen (l.take k) ≤ sumLen l := by
  conv => rhs; rw [← List.take_append_drop k l]
  simp only [sumLen, List.map_append, List.sum_append]
  omega

theorem sumLen_mem {α : Type} (l : List (List α)) (x : List α) (h : x ∈ l) : x.length ≤ sumLen l := by
  induction l with
  | nil => cases h
  | cons a l ih =>
    simp only [sumLen, List.map_cons, List.sum_cons] at *
    rcases List.mem_cons.1 h with rfl | h
    · omega
    · have := ih h; omega

/-- A slice of elements of several cells that lead nowhere. -/
theorem ow_flats {α : Type} {E : Enc α} {ty : TypeId} {w : World} {v : Value} {l : List α} {base : Nat} (c : α → List Value) (hf : ∀ x, x ∈ l → E.ow w (c x) x []) (h : w.ownsRow base ty E.size v l.length (l.flatMap c)) :
    (sliceE E ty).ow w [v] l v.ownBlock.toList := by
  refine ⟨v, l.map c, l.map fun _ => [], rfl, ?_, ?_, ?_⟩
  · clear h
    induction l with
    | nil => exact .nil
    | cons a l ih => exact .cons (hf a (by simp)) (ih fun x hx => hf x (by simp [hx]))
  · rw [← List.flatMap_def]; exact ownsRow_zero h
  · have : (l.map fun _ => ([] : List Nat)).flatten = [] := by simp
    rw [this, List.append_nil]

theorem makes_flats {α : Type} {E : Enc α} {ty : TypeId} {w wr : World} {v : Value} {l : List α} {g : Nat} (c : α → List Value) (hf : ∀ x, x ∈ l → E.ow wr (c x) x []) (h : wr.ownsRow g ty E.size v l.length (l.flatMap c))
    (hB : Below g w wr) (hg : g = w.heap.size) : Makes (sliceE E ty) id l w (.returned v) wr := by
  subst hg
  refine ⟨v, v.ownBlock.toList, rfl, ow_flats c hf h, nodup_option _, ?_, hB⟩
  intro b hb
  exact (h.lt b (by simpa using hb)).1

theorem flatMap_len {α : Type} (c : α → List Value) (s : Nat) (hc : ∀ x, (c x).length = s) (l : List α) : (l.flatMap c).length = l.length * s := by
  induction l with
  | nil => simp
  | cons a l ih => rw [List.flatMap_cons, List.length_append, ih, hc, List.length_cons, Nat.succ_mul]; omega

theorem flatMap_take {α : Type} (d : α) (c : α → List Value) (l : List α) (k : Nat) (hk : k < l.length) : (l.take (k + 1)).flatMap c = (l.take k).flatMap c ++ c (l[k]?.getD d) := by
  rw [List.take_succ_eq_append_getElem hk, List.flatMap_append]
  simp [List.getElem?_eq_getElem hk]

theorem flatMap_get {α : Type} (d : α) (c : α → List Value) (s : Nat) (hc : ∀ x, (c x).length = s) (l : List α) (k i : Nat) (hk : k < l.length) (hi : i < s) : (l.flatMap c)[k * s + i]? = (c (l[k]?.getD d))[i]? := by
  induction l generalizing k with
  | nil => simp at hk
  | cons a l ih =>
    rw [List.flatMap_cons]
    cases k with
    | zero => simp only [Nat.zero_mul, Nat.zero_add]; rw [List.getElem?_append_left (by rw [hc]; exact hi)]; simp
    | succ k =>
      rw [List.getElem?_append_right (by rw [hc, Nat.succ_mul]; omega), hc, show (k + 1) * s + i - s = k * s + i from by rw [Nat.succ_mul]; omega, ih k (by simpa using hk)]
      simp

theorem flatMap_set {α : Type} (d : α) (c : α → List Value) (s : Nat) (hc : ∀ x, (c x).length = s) (l : List α) (k i : Nat) (u : Value) (x : α) (hk : k < l.length) (hi : i < s) (hx : (c (l[k]?.getD d)).set i u = c x) : (l.flatMap c).set (k * s + i) u = (l.set k x).flatMap c := by
  induction l generalizing k with
  | nil => simp at hk
  | cons a l ih =>
    rw [List.flatMap_cons]
    cases k with
    | zero =>
      simp only [Nat.zero_mul, Nat.zero_add, List.set_cons_zero, List.flatMap_cons]
      rw [List.set_append_left _ _ (by rw [hc]; exact hi)]
      simp at hx
      rw [hx]
    | succ k =>
      rw [List.set_append_right _ _ (by rw [hc, Nat.succ_mul]; omega), hc, show (k + 1) * s + i - s = k * s + i from by rw [Nat.succ_mul]; omega, List.set_cons_succ, List.flatMap_cons]
      rw [ih k (by simpa using hk) (by simpa using hx)]

theorem fill2 (pre : List Value) (m : Nat) (z u0 u1 : Value) : ((pre ++ List.replicate (m + 2) z).set pre.length u0).set (pre.length + 1) u1 = pre ++ [u0, u1] ++ List.replicate m z := by
  rw [List.set_append_right _ _ (Nat.le_refl _), Nat.sub_self, List.replicate_succ, List.replicate_succ, List.set_cons_zero, List.set_append_right _ _ (by omega), show pre.length + 1 - pre.length = 1 from by omega]
  simp

theorem fill3 (pre : List Value) (m : Nat) (z u0 u1 u2 : Value) : (((pre ++ List.replicate (m + 3) z).set pre.length u0).set (pre.length + 1) u1).set (pre.length + 1 + 1) u2 = pre ++ [u0, u1, u2] ++ List.replicate m z := by
  rw [List.set_append_right _ _ (Nat.le_refl _), Nat.sub_self, List.replicate_succ, List.replicate_succ, List.replicate_succ, List.set_cons_zero, List.set_append_right _ _ (by omega), show pre.length + 1 - pre.length = 1 from by omega,
    List.set_cons_succ, List.set_cons_zero, List.set_append_right _ _ (by omega), show pre.length + 1 + 1 - pre.length = 2 from by omega]
  simp

theorem tail_get (pre : List Value) (m i : Nat) (z : Value) (hi : i < m) : (pre ++ List.replicate m z)[pre.length + i]? = some z := by
  rw [List.getElem?_append_right (by omega), show pre.length + i - pre.length = i from by omega, List.getElem?_replicate, if_pos hi]

/-- make([]T, n), T of several cells that are all alike at zero. -/
theorem make_runs {P : Program} {t e : TypeId} {i : TypeInfo} {z : Value} {s : Nat} (ht : P.underlying t = some (.slice e)) (hi : P.info? e = some i) (hz : i.zero = some z) (hs : i.size = s) (n : Nat) (hb : i.bytes * n ≤ 281474976710656) (hn : n ≤ 9223372036854775807) (w : World) :
    (Instr.makeSlice t (.int .i64 (n : Int)) (.int .i64 (n : Int))).run P w = .ok (.slice (some ⟨w.heap.size, 0, none⟩) n n) (w.alloc (.cells (madeCells z.cells (n * s)) e)) := by
  have hb' : (i.bytes : Int) * (n : Int) ≤ 281474976710656 := by
    have h : ((i.bytes * n : Nat) : Int) ≤ 281474976710656 := by omega
    rwa [Int.natCast_mul] at h
  have := run_make w t e i z ht hi hz .i64 .i64 n n (by omega) (by omega) hb' (by omega)
  rw [this]
  simp [hs]

theorem made_alike (zs : Array Value) (z : Value) (hz : ∀ i, i < zs.size → zs[i]? = some z) (hpos : 0 < zs.size) (n : Nat) : (madeCells zs n).toList = List.replicate n z := by
  apply List.ext_getElem?
  intro j
  by_cases hj : j < n
  · have hm : j % zs.size < zs.size := Nat.mod_lt _ hpos
    have := hz _ hm
    rw [Array.getElem?_eq_getElem hm] at this
    simp only [Option.some.injEq] at this
    simp [madeCells, hj, hm, this]
  · simp [madeCells, hj]

theorem made_owns2 {w : World} {ty : TypeId} (zs : Array Value) (z : Value) (s : Nat) (hs : zs.size = s) (hz : ∀ i, i < zs.size → zs[i]? = some z) (hpos : 0 < zs.size) (n : Nat) (hn : n ≤ maxLen) :
    (w.alloc (.cells (madeCells zs (n * s)) ty)).ownsRow w.heap.size ty s (.slice (some ⟨w.heap.size, 0, none⟩) n n) n (List.replicate (n * s) z) := by
  have := World.ownsRow_lit (e := ty) (size := s) w (madeCells zs (n * s)) n (Nat.le_refl _) hn (by simp [size_madeCells])
  rwa [made_alike zs z hz hpos] at this

end Go.Proofs.YtnkhgfdlehhjmaaDoor

/-
  Contracts of the laws' own helpers at one slice type (written by a program of this claim's own, gen_leaf.py).
-/
namespace Go.Proofs.YtnkhgfdlehhjmaaDoor
open Go.RowKit

theorem info_Int64S : (Tryd.prog.info? 2).map (fun i => (i.zero, i.size, i.bytes)) = some (some (.int .i64 0), 1, 8) := by kernel_rfl

end Go.Proofs.YtnkhgfdlehhjmaaDoor

/-
  append at the program's slice types (written by a program of this claim's own, gen_app.py).
-/
namespace Go.Proofs.YtnkhgfdlehhjmaaDoor
open Go.RowKit

theorem inf_Int64S : (Tryd.prog.info? 2).map (fun i => (i.zero, i.size, i.bytes)) = some (some (.int .i64 0), 1, 8) := by kernel_rfl

theorem app1_Int64S {w : World} {ops : Array Oper} {rest : List Oper} {o : Oper} {a : Act} {Q : Exit → Act → World → Prop} (hgd : o.guard = none) (s x : Operand)
    (ho : o.op = .call { callee := .builtin .append, args := #[s, x], argTypes := #[106, 106] }) {v : Value} {l : List _} {fp : List Nat} (hv : a.eval s = v) (hown : (sliceE intE 2).ow w [v] l fp) (hn : fp.Nodup)
    {g c : Nat} (hx : a.eval x = .slice (some ⟨g, 0, none⟩) 1 c) {y : _} {cs : List Value} {fy : List Nat} (hc : ∀ j u, cs[j]? = some u → w.cell? ⟨g, j, none⟩ = some u) (h1 : ∀ u, u ∈ cs → u.oneCell' = true) (hy : (intE).ow w cs y fy)
    (hny : fy.Nodup) (hd : ∀ b, b ∈ fy → b ∉ fp) (hlen : l.length ≤ 1000000000000)
    (h : ∀ v' w' fp', (sliceE intE 2).ow w' [v'] (l ++ [y]) fp' → fp'.Nodup → (∀ b, b ∈ fp' → b ∈ fp ∨ b ∈ fy ∨ w.heap.size ≤ b) → But fp w w' → wpList Tryd.prog ops Q rest (a.put o.dst v') w') : wpList Tryd.prog ops Q (o :: rest) a w := by
  obtain ⟨i0, hi, hz0, hz1, hz2⟩ := info_parts inf_Int64S
  exact wpList_append_one (E := intE) (ty := 2) hgd s x _ ho i0 _ _ Tryd.underlying106 hi hz0 hz1 hz2 rfl (by decide) (by decide) hv hown hn hx hc h1 hy hny hd hlen h

theorem appS_Int64S {w : World} {ops : Array Oper} {rest : List Oper} {o : Oper} {a : Act} {Q : Exit → Act → World → Prop} (hgd : o.guard = none) (s x : Operand)
    (ho : o.op = .call { callee := .builtin .append, args := #[s, x], argTypes := #[106, 106] }) {v : Value} {l : List _} {fp : List Nat} (hv : a.eval s = v) (hown : (sliceE intE 2).ow w [v] l fp)
    {ys : List _} {css : List (List Value)} {fys : List (List Nat)} (hys : OwAll (intE) w ys css fys) (hs : SrcS w (intE).size (a.eval x) ys.length css.flatten) (hd : (fp ++ fys.flatten).Nodup) (hlen : l.length + ys.length ≤ 1000000000000)
    (h : ∀ v' w' fp', (sliceE intE 2).ow w' [v'] (l ++ ys) fp' → fp'.Nodup → (∀ b, b ∈ fp' → b ∈ fp ∨ b ∈ fys.flatten ∨ w.heap.size ≤ b) → But fp w w' → wpList Tryd.prog ops Q rest (a.put o.dst v') w') : wpList Tryd.prog ops Q (o :: rest) a w := by
  obtain ⟨i0, hi, hz0, hz1, hz2⟩ := info_parts inf_Int64S
  exact wpList_append_enc (E := intE) (ty := 2) hgd s x _ ho i0 _ _ Tryd.underlying106 hi hz0 hz1 hz2 rfl (by decide) hv hown hys hs hd (by simp only [maxLen]; omega) (by omega) h

theorem inf_BoolS : (Tryd.prog.info? 4).map (fun i => (i.zero, i.size, i.bytes)) = some (some (.bool false), 1, 1) := by kernel_rfl

theorem inf_StringS : (Tryd.prog.info? 9).map (fun i => (i.zero, i.size, i.bytes)) = some (some (.string ByteArray.empty), 1, 16) := by kernel_rfl

theorem app1_StringS {w : World} {ops : Array Oper} {rest : List Oper} {o : Oper} {a : Act} {Q : Exit → Act → World → Prop} (hgd : o.guard = none) (s x : Operand)
    (ho : o.op = .call { callee := .builtin .append, args := #[s, x], argTypes := #[47, 47] }) {v : Value} {l : List _} {fp : List Nat} (hv : a.eval s = v) (hown : (sliceE strE 9).ow w [v] l fp) (hn : fp.Nodup)
    {g c : Nat} (hx : a.eval x = .slice (some ⟨g, 0, none⟩) 1 c) {y : _} {cs : List Value} {fy : List Nat} (hc : ∀ j u, cs[j]? = some u → w.cell? ⟨g, j, none⟩ = some u) (h1 : ∀ u, u ∈ cs → u.oneCell' = true) (hy : (strE).ow w cs y fy)
    (hny : fy.Nodup) (hd : ∀ b, b ∈ fy → b ∉ fp) (hlen : l.length ≤ 1000000000000)
    (h : ∀ v' w' fp', (sliceE strE 9).ow w' [v'] (l ++ [y]) fp' → fp'.Nodup → (∀ b, b ∈ fp' → b ∈ fp ∨ b ∈ fy ∨ w.heap.size ≤ b) → But fp w w' → wpList Tryd.prog ops Q rest (a.put o.dst v') w') : wpList Tryd.prog ops Q (o :: rest) a w := by
  obtain ⟨i0, hi, hz0, hz1, hz2⟩ := info_parts inf_StringS
  exact wpList_append_one (E := strE) (ty := 9) hgd s x _ ho i0 _ _ Tryd.underlying47 hi hz0 hz1 hz2 rfl (by decide) (by decide) hv hown hn hx hc h1 hy hny hd hlen h

theorem appS_StringS {w : World} {ops : Array Oper} {rest : List Oper} {o : Oper} {a : Act} {Q : Exit → Act → World → Prop} (hgd : o.guard = none) (s x : Operand)
    (ho : o.op = .call { callee := .builtin .append, args := #[s, x], argTypes := #[47, 47] }) {v : Value} {l : List _} {fp : List Nat} (hv : a.eval s = v) (hown : (sliceE strE 9).ow w [v] l fp)
    {ys : List _} {css : List (List Value)} {fys : List (List Nat)} (hys : OwAll (strE) w ys css fys) (hs : SrcS w (strE).size (a.eval x) ys.length css.flatten) (hd : (fp ++ fys.flatten).Nodup) (hlen : l.length + ys.length ≤ 1000000000000)
    (h : ∀ v' w' fp', (sliceE strE 9).ow w' [v'] (l ++ ys) fp' → fp'.Nodup → (∀ b, b ∈ fp' → b ∈ fp ∨ b ∈ fys.flatten ∨ w.heap.size ≤ b) → But fp w w' → wpList Tryd.prog ops Q rest (a.put o.dst v') w') : wpList Tryd.prog ops Q (o :: rest) a w := by
  obtain ⟨i0, hi, hz0, hz1, hz2⟩ := info_parts inf_StringS
  exact wpList_append_enc (E := strE) (ty := 9) hgd s x _ ho i0 _ _ Tryd.underlying47 hi hz0 hz1 hz2 rfl (by decide) hv hown hys hs hd (by simp only [maxLen]; omega) (by omega) h

theorem inf_Int64SS : (Tryd.prog.info? 106).map (fun i => (i.zero, i.size, i.bytes)) = some (some (.slice none 0 0), 1, 24) := by kernel_rfl

theorem inf_StringSS : (Tryd.prog.info? 47).map (fun i => (i.zero, i.size, i.bytes)) = some (some (.slice none 0 0), 1, 24) := by kernel_rfl

theorem app1_StringSS {w : World} {ops : Array Oper} {rest : List Oper} {o : Oper} {a : Act} {Q : Exit → Act → World → Prop} (hgd : o.guard = none) (s x : Operand)
    (ho : o.op = .call { callee := .builtin .append, args := #[s, x], argTypes := #[25, 25] }) {v : Value} {l : List _} {fp : List Nat} (hv : a.eval s = v) (hown : (sliceE strsE 47).ow w [v] l fp) (hn : fp.Nodup)
    {g c : Nat} (hx : a.eval x = .slice (some ⟨g, 0, none⟩) 1 c) {y : _} {cs : List Value} {fy : List Nat} (hc : ∀ j u, cs[j]? = some u → w.cell? ⟨g, j, none⟩ = some u) (h1 : ∀ u, u ∈ cs → u.oneCell' = true) (hy : (strsE).ow w cs y fy)
    (hny : fy.Nodup) (hd : ∀ b, b ∈ fy → b ∉ fp) (hlen : l.length ≤ 1000000000000)
    (h : ∀ v' w' fp', (sliceE strsE 47).ow w' [v'] (l ++ [y]) fp' → fp'.Nodup → (∀ b, b ∈ fp' → b ∈ fp ∨ b ∈ fy ∨ w.heap.size ≤ b) → But fp w w' → wpList Tryd.prog ops Q rest (a.put o.dst v') w') : wpList Tryd.prog ops Q (o :: rest) a w := by
  obtain ⟨i0, hi, hz0, hz1, hz2⟩ := info_parts inf_StringSS
  exact wpList_append_one (E := strsE) (ty := 47) hgd s x _ ho i0 _ _ Tryd.underlying25 hi hz0 hz1 hz2 rfl (by decide) (by decide) hv hown hn hx hc h1 hy hny hd hlen h

theorem appS_StringSS {w : World} {ops : Array Oper} {rest : List Oper} {o : Oper} {a : Act} {Q : Exit → Act → World → Prop} (hgd : o.guard = none) (s x : Operand)
    (ho : o.op = .call { callee := .builtin .append, args := #[s, x], argTypes := #[25, 25] }) {v : Value} {l : List _} {fp : List Nat} (hv : a.eval s = v) (hown : (sliceE strsE 47).ow w [v] l fp)
    {ys : List _} {css : List (List Value)} {fys : List (List Nat)} (hys : OwAll (strsE) w ys css fys) (hs : SrcS w (strsE).size (a.eval x) ys.length css.flatten) (hd : (fp ++ fys.flatten).Nodup) (hlen : l.length + ys.length ≤ 1000000000000)
    (h : ∀ v' w' fp', (sliceE strsE 47).ow w' [v'] (l ++ ys) fp' → fp'.Nodup → (∀ b, b ∈ fp' → b ∈ fp ∨ b ∈ fys.flatten ∨ w.heap.size ≤ b) → But fp w w' → wpList Tryd.prog ops Q rest (a.put o.dst v') w') : wpList Tryd.prog ops Q (o :: rest) a w := by
  obtain ⟨i0, hi, hz0, hz1, hz2⟩ := info_parts inf_StringSS
  exact wpList_append_enc (E := strsE) (ty := 47) hgd s x _ ho i0 _ _ Tryd.underlying25 hi hz0 hz1 hz2 rfl (by decide) hv hown hys hs hd (by simp only [maxLen]; omega) (by omega) h

theorem inf_MoveS : (Tryd.prog.info? 65).map (fun i => (i.zero, i.size, i.bytes)) = some (some (.agg #[.int .i64 0, .int .i64 0]), 2, 16) := by kernel_rfl

theorem app1_MoveS {w : World} {ops : Array Oper} {rest : List Oper} {o : Oper} {a : Act} {Q : Exit → Act → World → Prop} (hgd : o.guard = none) (s x : Operand)
    (ho : o.op = .call { callee := .builtin .append, args := #[s, x], argTypes := #[66, 66] }) {v : Value} {l : List _} {fp : List Nat} (hv : a.eval s = v) (hown : (sliceE moveE 65).ow w [v] l fp) (hn : fp.Nodup)
    {g c : Nat} (hx : a.eval x = .slice (some ⟨g, 0, none⟩) 1 c) {y : _} {cs : List Value} {fy : List Nat} (hc : ∀ j u, cs[j]? = some u → w.cell? ⟨g, j, none⟩ = some u) (h1 : ∀ u, u ∈ cs → u.oneCell' = true) (hy : (moveE).ow w cs y fy)
    (hny : fy.Nodup) (hd : ∀ b, b ∈ fy → b ∉ fp) (hlen : l.length ≤ 1000000000000)
    (h : ∀ v' w' fp', (sliceE moveE 65).ow w' [v'] (l ++ [y]) fp' → fp'.Nodup → (∀ b, b ∈ fp' → b ∈ fp ∨ b ∈ fy ∨ w.heap.size ≤ b) → But fp w w' → wpList Tryd.prog ops Q rest (a.put o.dst v') w') : wpList Tryd.prog ops Q (o :: rest) a w := by
  obtain ⟨i0, hi, hz0, hz1, hz2⟩ := info_parts inf_MoveS
  exact wpList_append_one (E := moveE) (ty := 65) hgd s x _ ho i0 _ _ Tryd.underlying66 hi hz0 hz1 hz2 rfl (by decide) (by decide) hv hown hn hx hc h1 hy hny hd hlen h

theorem appS_MoveS {w : World} {ops : Array Oper} {rest : List Oper} {o : Oper} {a : Act} {Q : Exit → Act → World → Prop} (hgd : o.guard = none) (s x : Operand)
    (ho : o.op = .call { callee := .builtin .append, args := #[s, x], argTypes := #[66, 66] }) {v : Value} {l : List _} {fp : List Nat} (hv : a.eval s = v) (hown : (sliceE moveE 65).ow w [v] l fp)
    {ys : List _} {css : List (List Value)} {fys : List (List Nat)} (hys : OwAll (moveE) w ys css fys) (hs : SrcS w (moveE).size (a.eval x) ys.length css.flatten) (hd : (fp ++ fys.flatten).Nodup) (hlen : l.length + ys.length ≤ 1000000000000)
    (h : ∀ v' w' fp', (sliceE moveE 65).ow w' [v'] (l ++ ys) fp' → fp'.Nodup → (∀ b, b ∈ fp' → b ∈ fp ∨ b ∈ fys.flatten ∨ w.heap.size ≤ b) → But fp w w' → wpList Tryd.prog ops Q rest (a.put o.dst v') w') : wpList Tryd.prog ops Q (o :: rest) a w := by
  obtain ⟨i0, hi, hz0, hz1, hz2⟩ := info_parts inf_MoveS
  exact wpList_append_enc (E := moveE) (ty := 65) hgd s x _ ho i0 _ _ Tryd.underlying66 hi hz0 hz1 hz2 rfl (by decide) hv hown hys hs hd (by simp only [maxLen]; omega) (by omega) h

theorem inf_MoveSS : (Tryd.prog.info? 66).map (fun i => (i.zero, i.size, i.bytes)) = some (some (.slice none 0 0), 1, 24) := by kernel_rfl

theorem app1_MoveSS {w : World} {ops : Array Oper} {rest : List Oper} {o : Oper} {a : Act} {Q : Exit → Act → World → Prop} (hgd : o.guard = none) (s x : Operand)
    (ho : o.op = .call { callee := .builtin .append, args := #[s, x], argTypes := #[30, 30] }) {v : Value} {l : List _} {fp : List Nat} (hv : a.eval s = v) (hown : (sliceE movesE 66).ow w [v] l fp) (hn : fp.Nodup)
    {g c : Nat} (hx : a.eval x = .slice (some ⟨g, 0, none⟩) 1 c) {y : _} {cs : List Value} {fy : List Nat} (hc : ∀ j u, cs[j]? = some u → w.cell? ⟨g, j, none⟩ = some u) (h1 : ∀ u, u ∈ cs → u.oneCell' = true) (hy : (movesE).ow w cs y fy)
    (hny : fy.Nodup) (hd : ∀ b, b ∈ fy → b ∉ fp) (hlen : l.length ≤ 1000000000000)
    (h : ∀ v' w' fp', (sliceE movesE 66).ow w' [v'] (l ++ [y]) fp' → fp'.Nodup → (∀ b, b ∈ fp' → b ∈ fp ∨ b ∈ fy ∨ w.heap.size ≤ b) → But fp w w' → wpList Tryd.prog ops Q rest (a.put o.dst v') w') : wpList Tryd.prog ops Q (o :: rest) a w := by
  obtain ⟨i0, hi, hz0, hz1, hz2⟩ := info_parts inf_MoveSS
  exact wpList_append_one (E := movesE) (ty := 66) hgd s x _ ho i0 _ _ Tryd.underlying30 hi hz0 hz1 hz2 rfl (by decide) (by decide) hv hown hn hx hc h1 hy hny hd hlen h

theorem appS_MoveSS {w : World} {ops : Array Oper} {rest : List Oper} {o : Oper} {a : Act} {Q : Exit → Act → World → Prop} (hgd : o.guard = none) (s x : Operand)
    (ho : o.op = .call { callee := .builtin .append, args := #[s, x], argTypes := #[30, 30] }) {v : Value} {l : List _} {fp : List Nat} (hv : a.eval s = v) (hown : (sliceE movesE 66).ow w [v] l fp)
    {ys : List _} {css : List (List Value)} {fys : List (List Nat)} (hys : OwAll (movesE) w ys css fys) (hs : SrcS w (movesE).size (a.eval x) ys.length css.flatten) (hd : (fp ++ fys.flatten).Nodup) (hlen : l.length + ys.length ≤ 1000000000000)
    (h : ∀ v' w' fp', (sliceE movesE 66).ow w' [v'] (l ++ ys) fp' → fp'.Nodup → (∀ b, b ∈ fp' → b ∈ fp ∨ b ∈ fys.flatten ∨ w.heap.size ≤ b) → But fp w w' → wpList Tryd.prog ops Q rest (a.put o.dst v') w') : wpList Tryd.prog ops Q (o :: rest) a w := by
  obtain ⟨i0, hi, hz0, hz1, hz2⟩ := info_parts inf_MoveSS
  exact wpList_append_enc (E := movesE) (ty := 66) hgd s x _ ho i0 _ _ Tryd.underlying30 hi hz0 hz1 hz2 rfl (by decide) hv hown hys hs hd (by simp only [maxLen]; omega) (by omega) h

end Go.Proofs.YtnkhgfdlehhjmaaDoor

/-
  Plain lemmas: all that a call holds of its own in one hypothesis ('Star': the blocks of its parts lie apart from each other), what each step does to it, and append (written in part by a program of this claim's own, gen_star.py).
-/
namespace Go.Proofs.YtnkhgfdlehhjmaaDoor
open Go.RowKit

/-- No block in common. -/
def Dj (f h : List Nat) : Prop := ∀ b, b ∈ f → b ∉ h

theorem Dj.symm {f h : List Nat} (d : Dj f h) : Dj h f := fun b hb hf => d b hf hb
theorem Dj.nodup {f h : List Nat} (d : Dj f h) (nf : f.Nodup) (nh : h.Nodup) : (f ++ h).Nodup := by
  rw [List.nodup_append]
  exact ⟨nf, nh, fun a ha b hb e => d a ha (e ▸ hb)⟩

/-- A part: what holds of it in a world, with its blocks. -/
structure Ob where
  holds : World → List Nat → Prop
  frame : ∀ {w w' : World} {fp : List Nat}, (∀ b, b ∈ fp → w'.heap[b]? = w.heap[b]?) → holds w fp → holds w' fp

/-- A block with these cells. -/
def oB (b : Nat) (cs : List Value) (ty : TypeId) : Ob := ⟨fun w fp => Blk w b cs ty ∧ fp = [b], fun hf h => ⟨h.1.same (hf b (by rw [h.2]; simp)), h.2⟩⟩

/-- Cells that stand for a value of one's own. -/
def oE {α : Type} (E : Enc α) (cs : List Value) (a : α) : Ob := ⟨fun w fp => E.ow w cs a fp, fun hf h => E.ow_frame hf h⟩

/-- What a call that began in w0 holds of its own in w. -/
def Star (w0 w : World) (ps : List Ob) : Prop :=
  Below w0.heap.size w0 w ∧ ∃ fp : Nat → List Nat, (∀ i P, ps[i]? = some P → P.holds w (fp i) ∧ (fp i).Nodup ∧ ∀ b, b ∈ fp i → w0.heap.size ≤ b ∧ b < w.heap.size) ∧
    ∀ i j, i ≠ j → i < ps.length → j < ps.length → Dj (fp i) (fp j)

section
variable {w0 w w' : World} {ps : List Ob}

theorem Star.nil (w : World) : Star w w [] := ⟨Below.refl _ _, fun _ => [], fun i P h => by simp at h, fun i j _ hi => by simp at hi⟩

theorem Star.below (S : Star w0 w ps) : Below w0.heap.size w0 w := S.1

theorem Star.step (S : Star w0 w ps) (hb : Below w.heap.size w w') : Star w0 w' ps := by
  obtain ⟨B, fp, h, d⟩ := S
  refine ⟨B.trans (hb.mono B.size), fp, fun i P hP => ?_, d⟩
  obtain ⟨h1, h2, h3⟩ := h i P hP
  exact ⟨P.frame (fun b hm => hb.block b (h3 b hm).2) h1, h2, fun b hm => ⟨(h3 b hm).1, Nat.lt_of_lt_of_le (h3 b hm).2 hb.size⟩⟩

theorem Star.push (S : Star w0 w ps) {P : Ob} {f : List Nat} (hb : Below w.heap.size w w') (hP : P.holds w' f) (nd : f.Nodup) (lo : ∀ b, b ∈ f → w.heap.size ≤ b) (hi : ∀ b, b ∈ f → b < w'.heap.size) : Star w0 w' (P :: ps) := by
  obtain ⟨B, fp, h, d⟩ := S
  have hs := B.size
  refine ⟨B.trans (hb.mono hs), fun i => match i with | 0 => f | i + 1 => fp i, fun i Q hQ => ?_, fun i j hij hi hj => ?_⟩
  · cases i with
    | zero =>
      obtain rfl : P = Q := by simpa using hQ
      exact ⟨hP, nd, fun b hm => ⟨Nat.le_trans hs (lo b hm), hi b hm⟩⟩
    | succ i =>
      obtain ⟨h1, h2, h3⟩ := h i Q (by simpa using hQ)
      exact ⟨Q.frame (fun b hm => hb.block b (h3 b hm).2) h1, h2, fun b hm => ⟨(h3 b hm).1, Nat.lt_of_lt_of_le (h3 b hm).2 hb.size⟩⟩
  · have key : ∀ i, i < ps.length → Dj f (fp i) := by
      intro i hi b hb1 hb2
      have := lo b hb1
      have := ((h i _ (List.getElem?_eq_getElem hi)).2.2 b hb2).2
      omega
    cases i with
    | zero =>
      cases j with
      | zero => exact absurd rfl hij
      | succ j => exact key j (by simpa using hj)
    | succ i =>
      cases j with
      | zero => exact (key i (by simpa using hi)).symm
      | succ j => exact d i j (by omega) (by simpa using hi) (by simpa using hj)

theorem Star.alloc (S : Star w0 w ps) {cs : Array Value} {ty : TypeId} : Star w0 (w.alloc (.cells cs ty)) (oB w.heap.size cs.toList ty :: ps) :=
  S.push (f := [w.heap.size]) ((Below.refl _ _).alloc (Nat.le_refl _) _) ⟨Blk.new w cs ty, rfl⟩ (by simp) (fun b hb => by have e : b = w.heap.size := by simpa using hb
                                                                                                                          omega) (fun b hb => by have e : b = w.heap.size := by simpa using hb
                                                                                                                                                 rw [World.size_alloc]; omega)

/-- A call's result, of new memory. -/
theorem Star.made {α : Type} {E : Enc α} {cs : List Value} {a : α} {f : List Nat} (S : Star w0 w ps) (o : E.ow w' cs a f) (nd : f.Nodup) (lo : ∀ b, b ∈ f → w.heap.size ≤ b) (hb : Below w.heap.size w w') : Star w0 w' (oE E cs a :: ps) :=
  S.push (P := oE E cs a) hb o nd lo (E.ow_lt o)

theorem Star.flat {α : Type} {E : Enc α} {cs : List Value} {a : α} (S : Star w0 w ps) (o : E.ow w cs a []) : Star w0 w (oE E cs a :: ps) :=
  S.push (P := oE E cs a) (Below.refl _ _) o List.nodup_nil (fun b hb => by cases hb) (fun b hb => by cases hb)

/-- Some of the parts, in another order. -/
theorem Star.sel (S : Star w0 w ps) (is : List Nat) (hn : is.Nodup := by decide) (hl : ∀ i, i ∈ is → i < ps.length := by simp) : Star w0 w (is.filterMap fun i => ps[i]?) := by
  obtain ⟨B, fp, h, d⟩ := S
  have hf : ∀ is : List Nat, (∀ i, i ∈ is → i < ps.length) → (is.filterMap fun i => ps[i]?).length = is.length ∧ ∀ k : Nat, (is.filterMap fun i => ps[i]?)[k]? = (is[k]?).bind fun i => ps[i]? := by
    intro is
    induction is with
    | nil => intro _; exact ⟨rfl, fun k => by simp⟩
    | cons i is ih =>
      intro hl
      obtain ⟨i1, i2⟩ := ih (fun j hj => hl j (by simp [hj]))
      have hi := hl i (by simp)
      rw [List.filterMap_cons, List.getElem?_eq_getElem hi]
      refine ⟨by simp [i1], fun k => ?_⟩
      cases k with
      | zero => simp [List.getElem?_eq_getElem hi]
      | succ k => simpa using i2 k
  obtain ⟨e1, e2⟩ := hf is hl
  refine ⟨B, fun k => fp (is[k]?.getD 0), fun k P hP => ?_, fun i j hij hi hj => ?_⟩
  · rw [e2] at hP
    cases hk : is[k]? with
    | none => rw [hk] at hP; cases hP
    | some i => rw [hk] at hP; simp only [hk, Option.getD_some]; exact h i P hP
  · rw [e1] at hi hj
    have hi' := hl _ (List.getElem_mem hi)
    have hj' := hl _ (List.getElem_mem hj)
    show Dj (fp (is[i]?.getD 0)) (fp (is[j]?.getD 0))
    rw [List.getElem?_eq_getElem hi, List.getElem?_eq_getElem hj]
    refine d _ _ (fun e => hij ?_) hi' hj'
    have hp := List.pairwise_iff_getElem.1 hn
    rcases Nat.lt_trichotomy i j with hlt | hlt | hlt
    · exact absurd (by simpa using e) (hp i j hi hj hlt)
    · exact hlt
    · exact absurd (by simpa using e.symm) (hp j i hj hi hlt)

/-- One part turns into another; all others are as they were. -/
theorem Star.upd {P P' : Ob} (S : Star w0 w (P :: ps))
    (h : ∀ f, P.holds w f → f.Nodup → (∀ b, b ∈ f → b < w.heap.size) → ∃ f', P'.holds w' f' ∧ f'.Nodup ∧ (∀ b, b ∈ f' → b ∈ f ∨ w.heap.size ≤ b) ∧ (∀ b, b ∈ f' → b < w'.heap.size) ∧ But f w w') : Star w0 w' (P' :: ps) := by
  obtain ⟨B, fp, hh, d⟩ := S
  obtain ⟨p1, p2, p3⟩ := hh 0 P rfl
  obtain ⟨f', q1, q2, q3, q4, bt⟩ := h (fp 0) p1 p2 (fun b hb => (p3 b hb).2)
  have hs := B.size
  have hB : Below w0.heap.size w0 w' := B.trans (bt.below (fun b hb => (p3 b hb).1) hs)
  have hd0 : ∀ i, i < ps.length → Dj f' (fp (i + 1)) := by
    intro i hi b hb1 hb2
    rcases q3 b hb1 with h1 | h1
    · exact d 0 (i + 1) (by omega) (by simp) (by simpa using hi) b h1 hb2
    · have := ((hh (i + 1) _ (by rw [List.getElem?_cons_succ]; exact List.getElem?_eq_getElem hi)).2.2 b hb2).2
      omega
  refine ⟨hB, fun i => match i with | 0 => f' | i + 1 => fp (i + 1), fun i Q hQ => ?_, fun i j hij hi hj => ?_⟩
  · cases i with
    | zero =>
      obtain rfl : P' = Q := by simpa using hQ
      refine ⟨q1, q2, fun b hm => ⟨?_, q4 b hm⟩⟩
      rcases q3 b hm with h1 | h1
      · exact (p3 b h1).1
      · omega
    | succ i =>
      have hQ' : ps[i]? = some Q := by simpa using hQ
      obtain ⟨h1, h2, h3⟩ := hh (i + 1) Q hQ'
      have hil := (List.getElem?_eq_some_iff.1 hQ').1
      refine ⟨Q.frame (fun b hm => bt.block b (h3 b hm).2 (fun hf => ?_)) h1, h2, fun b hm => ⟨(h3 b hm).1, Nat.lt_of_lt_of_le (h3 b hm).2 bt.size⟩⟩
      exact d 0 (i + 1) (by omega) (by simp) (by simpa using hil) b hf hm
  · cases i with
    | zero =>
      cases j with
      | zero => exact absurd rfl hij
      | succ j => exact hd0 j (by simpa using hj)
    | succ i =>
      cases j with
      | zero => exact (hd0 i (by simpa using hi)).symm
      | succ j => exact d (i + 1) (j + 1) (by omega) hi hj

/-- Two parts turn into one. -/
theorem Star.join {P Q R : Ob} (S : Star w0 w (P :: Q :: ps)) (h : ∀ f g, P.holds w f → Q.holds w g → R.holds w (f ++ g)) : Star w0 w (R :: ps) := by
  obtain ⟨B, fp, hh, d⟩ := S
  obtain ⟨p1, p2, p3⟩ := hh 0 P rfl
  obtain ⟨q1, q2, q3⟩ := hh 1 Q rfl
  have hd0 : ∀ i, i < ps.length → Dj (fp 0 ++ fp 1) (fp (i + 2)) := by
    intro i hi b hb1 hb2
    rcases List.mem_append.1 hb1 with h1 | h1
    · exact d 0 (i + 2) (by omega) (by simp) (by simpa using hi) b h1 hb2
    · exact d 1 (i + 2) (by omega) (by simp) (by simpa using hi) b h1 hb2
  refine ⟨B, fun i => match i with | 0 => fp 0 ++ fp 1 | i + 1 => fp (i + 2), fun i Q hQ => ?_, fun i j hij hi hj => ?_⟩
  · cases i with
    | zero =>
      obtain rfl : R = Q := by simpa using hQ
      refine ⟨h _ _ p1 q1, (d 0 1 (by omega) (by simp) (by simp)).nodup p2 q2, fun b hm => ?_⟩
      rcases List.mem_append.1 hm with h1 | h1
      · exact p3 b h1
      · exact q3 b h1
    | succ i => exact hh (i + 2) Q (by simpa using hQ)
  · cases i with
    | zero =>
      cases j with
      | zero => exact absurd rfl hij
      | succ j => exact hd0 j (by simpa using hj)
    | succ i =>
      cases j with
      | zero => exact (hd0 i (by simpa using hi)).symm
      | succ j => exact d (i + 2) (j + 2) (by omega) (by simpa using hi) (by simpa using hj)

theorem Star.set {b : Nat} {cs : List Value} {ty : TypeId} (S : Star w0 w (oB b cs ty :: ps)) (i : Nat) (v : Value) : Star w0 (w.setCell ⟨b, i, none⟩ v) (oB b (cs.set i v) ty :: ps) :=
  S.upd fun f hf _ hl => ⟨f, ⟨hf.1.set i v, hf.2⟩, by rw [hf.2]; simp, fun b hb => .inl hb, fun b hb => by simpa using hl b hb, by rw [hf.2]; exact (But.refl _ _).setCell (by simp) _⟩

theorem Star.set4 {b : Nat} {cs : List Value} {ty : TypeId} {v0 v1 v2 v3 : Value} (S : Star w0 w (oB b cs ty :: ps)) (hl : cs.length = 4) (hW : (((w.setCell ⟨b, 0, none⟩ v0).setCell ⟨b, 1, none⟩ v1).setCell ⟨b, 2, none⟩ v2).setCell ⟨b, 3, none⟩ v3 = w') :
    Star w0 w' (oB b [v0, v1, v2, v3] ty :: ps) := by
  subst hW
  match cs, hl with
  | [_, _, _, _], _ => exact (((S.set 0 v0).set 1 v1).set 2 v2).set 3 v3

theorem Star.set3 {b : Nat} {cs : List Value} {ty : TypeId} {v0 v1 v2 : Value} (S : Star w0 w (oB b cs ty :: ps)) (hl : cs.length = 3) (hW : ((w.setCell ⟨b, 0, none⟩ v0).setCell ⟨b, 1, none⟩ v1).setCell ⟨b, 2, none⟩ v2 = w') :
    Star w0 w' (oB b [v0, v1, v2] ty :: ps) := by
  subst hW
  match cs, hl with
  | [_, _, _], _ => exact ((S.set 0 v0).set 1 v1).set 2 v2

theorem Star.blk (S : Star w0 w ps) (n : Nat) {b : Nat} {cs : List Value} {ty : TypeId} (h : ps[n]? = some (oB b cs ty)) : Blk w b cs ty := by
  obtain ⟨_, fp, hh, _⟩ := S
  exact (hh n _ h).1.1

theorem Star.own (S : Star w0 w ps) (n : Nat) {α : Type} {E : Enc α} {cs : List Value} {a : α} (h : ps[n]? = some (oE E cs a)) : ∃ f, E.ow w cs a f := by
  obtain ⟨_, fp, hh, _⟩ := S
  exact ⟨fp n, (hh n _ h).1⟩

theorem Star.rd (S : Star w0 w ps) (n : Nat) {α : Type} {E : Enc α} {cs : List Value} {a : α} (h : ps[n]? = some (oE E cs a)) : E.rd w w.heap.size cs a := by
  obtain ⟨f, o⟩ := S.own n h
  exact E.rd_ow o

theorem Star.slc (S : Star w0 w ps) (n : Nat) {α : Type} {E : Enc α} {t : TypeId} {v : Value} {a : List α} (h : ps[n]? = some (oE (sliceE E t) [v] a)) : ∃ sa sn sc, v = .slice sa sn sc := by
  obtain ⟨f, o⟩ := S.own n h
  exact ow_slice o

/-- What has just been written into a block, as a slice. -/
theorem Star.lit {α : Type} {E : Enc α} {ty : TypeId} {g : Nat} {vs : List Value} (S : Star w0 w (oB g vs ty :: ps)) (l : List α) (f : α → Value) (hv : vs = l.map f) (hE : E.size = 1) (hf : ∀ x, x ∈ l → E.ow w [f x] x []) (hl : l.length ≤ maxLen) :
    Star w0 w (oE (sliceE E ty) [.slice (some ⟨g, 0, none⟩) l.length l.length] l :: ps) :=
  S.upd fun q hq _ hlt => ⟨q, by rw [hq.2]; exact ow_lit f hE hf (hv ▸ hq.1) hl, by rw [hq.2]; simp, fun b hb => .inl hb, hlt, But.refl _ _⟩

theorem Star.lit0 {α : Type} {E : Enc α} {ty : TypeId} {g : Nat} (S : Star w0 w (oB g [] ty :: ps)) : Star w0 w (oE (sliceE E ty) [.slice (some ⟨g, 0, none⟩) 0 0] ([] : List α) :: ps) :=
  S.upd fun q hq _ hlt => ⟨q, by rw [hq.2]; exact ⟨_, [], [], rfl, .nil, ⟨by simp, .inr ⟨g, 0, #[], rfl, Nat.zero_le _, hq.1, Nat.le_refl _, Nat.zero_le _, by simp, by simp⟩⟩, by simp [Value.ownBlock]⟩, by rw [hq.2]; simp, fun b hb => .inl hb, hlt, But.refl _ _⟩

theorem Star.int (S : Star w0 w ps) {x : Int} (h : -9223372036854775808 ≤ x ∧ x ≤ 9223372036854775807) : Star w0 w (oE intE [Value.int .i64 x] x :: ps) := S.flat ⟨⟨rfl, h⟩, rfl⟩
theorem Star.bool (S : Star w0 w ps) {x : Bool} : Star w0 w (oE boolE [Value.bool x] x :: ps) := S.flat ⟨rfl, rfl⟩
theorem Star.str (S : Star w0 w ps) {x : ByteArray} (h : x.size ≤ maxLen) : Star w0 w (oE strE [Value.string x] x :: ps) := S.flat ⟨⟨rfl, h⟩, rfl⟩
theorem Star.move (S : Star w0 w ps) {x y : Int} (h : -9223372036854775808 ≤ x ∧ x ≤ 9223372036854775807) (k : -9223372036854775808 ≤ y ∧ y ≤ 9223372036854775807) : Star w0 w (oE moveE [Value.int .i64 x, Value.int .i64 y] ⟨x, y⟩ :: ps) :=
  S.flat ⟨[_], [_], [], [], rfl, rfl, ⟨⟨rfl, h⟩, rfl⟩, ⟨⟨rfl, k⟩, rfl⟩⟩
theorem Star.pmove (S : Star w0 w ps) {x y z : Int} (h : -9223372036854775808 ≤ x ∧ x ≤ 9223372036854775807) (k : -9223372036854775808 ≤ y ∧ y ≤ 9223372036854775807) (m : -9223372036854775808 ≤ z ∧ z ≤ 9223372036854775807) :
    Star w0 w (oE pmoveE [Value.int .i64 x, Value.int .i64 y, Value.int .i64 z] ⟨x, y, z⟩ :: ps) :=
  S.flat ⟨[_], [_, _], [], [], rfl, rfl, ⟨⟨rfl, h⟩, rfl⟩, ⟨[_], [_], [], [], rfl, rfl, ⟨⟨rfl, k⟩, rfl⟩, ⟨⟨rfl, m⟩, rfl⟩⟩⟩
theorem Star.nils {α : Type} (E : Enc α) (ty : TypeId) (S : Star w0 w ps) : Star w0 w (oE (sliceE E ty) [.slice none 0 0] [] :: ps) := S.flat (ow_nil E ty w)

/-- Two fields side by side. -/
theorem Star.pair {α β : Type} {E : Enc α} {F : Enc β} {c1 c2 : List Value} {x : α} {y : β} (S : Star w0 w (oE E c1 x :: oE F c2 y :: ps)) : Star w0 w (oE (pairE E F) (c1 ++ c2) (x, y) :: ps) :=
  S.join fun f g h1 h2 => ⟨c1, c2, f, g, rfl, rfl, h1, h2⟩

theorem Star.via {α β : Type} {E : Enc β} {F : α → β} {cs : List Value} {y : β} (S : Star w0 w (oE E cs y :: ps)) (x : α) (h : F x = y) : Star w0 w (oE (viaE E F) cs x :: ps) :=
  S.upd fun q hq hn hlt => ⟨q, (by show E.ow w cs (F x) q; rw [h]; exact hq), hn, fun b hb => .inl hb, hlt, But.refl _ _⟩

/-- What is handed back. -/
theorem Star.out {α : Type} {E : Enc α} {cs : List Value} {a : α} (S : Star w0 w (oE E cs a :: ps)) : ∃ f, E.ow w cs a f ∧ f.Nodup ∧ ∀ b, b ∈ f → w0.heap.size ≤ b := by
  obtain ⟨_, fp, hh, _⟩ := S
  obtain ⟨h1, h2, h3⟩ := hh 0 _ rfl
  exact ⟨_, h1, h2, fun b hb => (h3 b hb).1⟩

theorem Star.done {α : Type} {E : Enc α} {cs : List Value} {x : α × Int} (S : Star w0 w (oE E cs x.1 :: ps)) : MakesC E x w0 (.returned (.tuple #[.agg cs.toArray, .int .i64 x.2])) w := by
  obtain ⟨f, h1, h2, h3⟩ := S.out
  exact ⟨cs, f, rfl, h1, h2, h3, S.below⟩

theorem Star.done1 {α : Type} {E : Enc α} {v : Value} {x : α} (S : Star w0 w (oE E [v] x :: ps)) : Makes E id x w0 (.returned v) w := by
  obtain ⟨f, h1, h2, h3⟩ := S.out
  exact ⟨v, f, rfl, h1, h2, h3, S.below⟩
end

theorem cell_a1 {w : World} {cs : List Value} {ty : TypeId} : ∀ j u, cs[j]? = some u → (w.alloc (.cells cs.toArray ty)).cell? ⟨w.heap.size, j, none⟩ = some u := fun j _ hu => (Blk.new w cs.toArray ty).cell j (by simpa using hu)
theorem cell_a2 {w : World} {o : Obj} {cs : List Value} {ty : TypeId} : ∀ j u, cs[j]? = some u → ((w.alloc o).alloc (.cells cs.toArray ty)).cell? ⟨w.heap.size + 1, j, none⟩ = some u := fun j _ hu => by
  have := (Blk.new (w.alloc o) cs.toArray ty).cell j (v := _) (by simpa using hu)
  simpa using this
theorem cell_a3 {w : World} {o p : Obj} {cs : List Value} {ty : TypeId} : ∀ j u, cs[j]? = some u → (((w.alloc o).alloc p).alloc (.cells cs.toArray ty)).cell? ⟨w.heap.size + 1 + 1, j, none⟩ = some u := fun j _ hu => by
  have := (Blk.new ((w.alloc o).alloc p) cs.toArray ty).cell j (v := _) (by simpa using hu)
  simpa using this

theorem cell_s1 {w : World} {a : Addr} {v : Value} {cs : List Value} {ty : TypeId} : ∀ j u, cs[j]? = some u → ((w.setCell a v).alloc (.cells cs.toArray ty)).cell? ⟨w.heap.size, j, none⟩ = some u := fun j _ hu => by
  have := (Blk.new (w.setCell a v) cs.toArray ty).cell j (v := _) (by simpa using hu)
  simpa using this

theorem int_in (x : Int) (h : -9223372036854775808 ≤ x ∧ x ≤ 9223372036854775807) (w : World) : ∀ y, y ∈ [x] → intE.ow w [Value.int .i64 y] y [] := fun y hy => by
  have e : y = x := by simpa using hy
  subst e; exact ⟨⟨rfl, h⟩, rfl⟩
theorem int_in2 (x y : Int) (h : -9223372036854775808 ≤ x ∧ x ≤ 9223372036854775807) (k : -9223372036854775808 ≤ y ∧ y ≤ 9223372036854775807) (w : World) : ∀ z, z ∈ [x, y] → intE.ow w [Value.int .i64 z] z [] := fun z hz => by
  rcases List.mem_cons.1 hz with e | e
  · subst e; exact ⟨⟨rfl, h⟩, rfl⟩
  · have e : z = y := by simpa using e
    subst e; exact ⟨⟨rfl, k⟩, rfl⟩

theorem one_mem2 {v u : Value} (h : v.oneCell' = true) (k : u.oneCell' = true) : ∀ x, x ∈ [v, u] → x.oneCell' = true := by
  intro x hx
  rcases List.mem_cons.1 hx with e | e
  · rw [e]; exact h
  · exact one_mem k x e
theorem one_mem3 {v u t : Value} (h : v.oneCell' = true) (k : u.oneCell' = true) (m : t.oneCell' = true) : ∀ x, x ∈ [v, u, t] → x.oneCell' = true := by
  intro x hx
  rcases List.mem_cons.1 hx with e | e
  · rw [e]; exact h
  · exact one_mem2 k m x e

theorem take_range_map {α : Type} (f : Nat → α) (n k : Nat) (h : k < n) : ((List.range n).map f).take (k + 1) = ((List.range n).map f).take k ++ [f k] := by
  rw [List.take_succ_eq_append_getElem (by simpa using h)]
  simp

theorem take_range_all {α : Type} (f : Nat → α) (n : Nat) : ((List.range n).map f).take n = (List.range n).map f := List.take_of_length_le (by simp)

theorem take_range_len {α : Type} (f : Nat → α) (n k : Nat) (h : k ≤ n) : (((List.range n).map f).take k).length = k := by simp; omega

theorem take_map_succ {α β : Type} (d : α) (f : α → β) (l : List α) (k : Nat) (h : k < l.length) : (l.take (k + 1)).map f = (l.take k).map f ++ [f (l[k]?.getD d)] := by
  rw [List.take_succ_eq_append_getElem h, List.map_append]
  simp [List.getElem?_eq_getElem h]

theorem sum_map_le {α : Type} (f : α → Nat) (c : Nat) (l : List α) (h : ∀ x, x ∈ l → f x ≤ c) : (l.map f).sum ≤ l.length * c := by
  induction l with
  | nil => simp
  | cons a l ih =>
    rw [List.map_cons, List.sum_cons, List.length_cons, Nat.succ_mul]
    have := h a (by simp); have := ih (fun x hx => h x (by simp [hx])); omega

/-- append of one element, itself a part, to a slice of Int. -/
theorem st1_Int64S {w0 w : World} {ps : List Ob} {ops : Array Oper} {rest : List Oper} {o : Oper} {a : Act} {Q : Exit → Act → World → Prop} {s x : Operand} {v : Value} {l : List (Int)} {b c : Nat} {y : Int} {cs : List Value}
    (S : Star w0 w (oE (sliceE intE 2) [v] l :: oE intE cs y :: ps)) (hgd : o.guard = none)
    (ho : o.op = .call { callee := .builtin .append, args := #[s, x], argTypes := #[106, 106] }) (hv : a.eval s = v)
    (hx : a.eval x = .slice (some ⟨b, 0, none⟩) 1 c) (hc : ∀ j u, cs[j]? = some u → w.cell? ⟨b, j, none⟩ = some u) (h1 : ∀ u, u ∈ cs → u.oneCell' = true) (hlen : l.length ≤ 1000000000000)
    (h : ∀ sa sn sc w', Star w0 w' (oE (sliceE intE 2) [.slice sa sn sc] (l ++ [y]) :: ps) → wpList Tryd.prog ops Q rest (a.put o.dst (.slice sa sn sc)) w') : wpList Tryd.prog ops Q (o :: rest) a w := by
  obtain ⟨B, fp, hh, d⟩ := S
  obtain ⟨p1, p2, p3⟩ := hh 0 _ rfl
  obtain ⟨q1, q2, q3⟩ := hh 1 _ rfl
  have d01 := d 1 0 (by omega) (by simp) (by simp)
  refine app1_Int64S hgd s x ho hv p1 p2 hx hc h1 q1 q2 d01 hlen (fun v' w' fp' k1 k2 k3 k4 => ?_)
  obtain ⟨sa, sn, sc, rfl⟩ := ow_slice k1
  refine h sa sn sc w' ⟨B.trans (k4.below (fun b hb => (p3 b hb).1) B.size), fun i => match i with | 0 => fp' | i + 1 => fp (i + 2), fun i Q hQ => ?_, fun i j hij hi hj => ?_⟩
  · cases i with
    | zero =>
      obtain rfl : _ = Q := by simpa using hQ
      refine ⟨k1, k2, fun b hm => ⟨?_, Enc.ow_lt _ k1 b hm⟩⟩
      rcases k3 b hm with h1 | h1 | h1
      · exact (p3 b h1).1
      · exact (q3 b h1).1
      · have := B.size; omega
    | succ i =>
      have hQ' : ps[i]? = some Q := by simpa using hQ
      obtain ⟨h1, h2, h3⟩ := hh (i + 2) Q hQ'
      have hil := (List.getElem?_eq_some_iff.1 hQ').1
      refine ⟨Q.frame (fun b hm => k4.block b (h3 b hm).2 (fun hf => ?_)) h1, h2, fun b hm => ⟨(h3 b hm).1, Nat.lt_of_lt_of_le (h3 b hm).2 k4.size⟩⟩
      exact d 0 (i + 2) (by omega) (by simp) (by simpa using hil) b hf hm
  · have hd0 : ∀ i, i < ps.length → Dj fp' (fp (i + 2)) := by
      intro i hi b hb1 hb2
      rcases k3 b hb1 with h1 | h1 | h1
      · exact d 0 (i + 2) (by omega) (by simp) (by simpa using hi) b h1 hb2
      · exact d 1 (i + 2) (by omega) (by simp) (by simpa using hi) b h1 hb2
      · have := ((hh (i + 2) _ (by rw [List.getElem?_cons_succ, List.getElem?_cons_succ]; exact List.getElem?_eq_getElem hi)).2.2 b hb2).2
        omega
    cases i with
    | zero =>
      cases j with
      | zero => exact absurd rfl hij
      | succ j => exact hd0 j (by simpa using hj)
    | succ i =>
      cases j with
      | zero => exact (hd0 i (by simpa using hi)).symm
      | succ j => exact d (i + 2) (j + 2) (by omega) (by simpa using hi) (by simpa using hj)

/-- append of several elements that lead nowhere. -/
theorem stS_Int64S {w0 w : World} {ps : List Ob} {ops : Array Oper} {rest : List Oper} {o : Oper} {a : Act} {Q : Exit → Act → World → Prop} {s x : Operand} {v : Value} {l : List (Int)} {ys : List (Int)} {css : List (List Value)} {fys : List (List Nat)}
    (S : Star w0 w (oE (sliceE intE 2) [v] l :: ps)) (hgd : o.guard = none)
    (ho : o.op = .call { callee := .builtin .append, args := #[s, x], argTypes := #[106, 106] }) (hv : a.eval s = v)
    (hys : OwAll (intE) w ys css fys) (hfy : fys.flatten = []) (hs : SrcS w (intE).size (a.eval x) ys.length css.flatten) (hlen : l.length + ys.length ≤ 1000000000000)
    (h : ∀ sa sn sc w', Star w0 w' (oE (sliceE intE 2) [.slice sa sn sc] (l ++ ys) :: ps) → wpList Tryd.prog ops Q rest (a.put o.dst (.slice sa sn sc)) w') : wpList Tryd.prog ops Q (o :: rest) a w := by
  obtain ⟨B, fp, hh, d⟩ := S
  obtain ⟨p1, p2, p3⟩ := hh 0 _ rfl
  refine appS_Int64S hgd s x ho hv p1 hys hs (by rw [hfy, List.append_nil]; exact p2) hlen (fun v' w' fp' k1 k2 k3 k4 => ?_)
  rw [hfy] at k3
  obtain ⟨sa, sn, sc, rfl⟩ := ow_slice k1
  refine h sa sn sc w' ⟨B.trans (k4.below (fun b hb => (p3 b hb).1) B.size), fun i => match i with | 0 => fp' | i + 1 => fp (i + 1), fun i Q hQ => ?_, fun i j hij hi hj => ?_⟩
  · cases i with
    | zero =>
      obtain rfl : _ = Q := by simpa using hQ
      refine ⟨k1, k2, fun b hm => ⟨?_, Enc.ow_lt _ k1 b hm⟩⟩
      rcases k3 b hm with h1 | h1 | h1
      · exact (p3 b h1).1
      · cases h1
      · have := B.size; omega
    | succ i =>
      have hQ' : ps[i]? = some Q := by simpa using hQ
      obtain ⟨h1, h2, h3⟩ := hh (i + 1) Q hQ'
      have hil := (List.getElem?_eq_some_iff.1 hQ').1
      refine ⟨Q.frame (fun b hm => k4.block b (h3 b hm).2 (fun hf => ?_)) h1, h2, fun b hm => ⟨(h3 b hm).1, Nat.lt_of_lt_of_le (h3 b hm).2 k4.size⟩⟩
      exact d 0 (i + 1) (by omega) (by simp) (by simpa using hil) b hf hm
  · have hd0 : ∀ i, i < ps.length → Dj fp' (fp (i + 1)) := by
      intro i hi b hb1 hb2
      rcases k3 b hb1 with h1 | h1 | h1
      · exact d 0 (i + 1) (by omega) (by simp) (by simpa using hi) b h1 hb2
      · cases h1
      · have := ((hh (i + 1) _ (by rw [List.getElem?_cons_succ]; exact List.getElem?_eq_getElem hi)).2.2 b hb2).2
        omega
    cases i with
    | zero =>
      cases j with
      | zero => exact absurd rfl hij
      | succ j => exact hd0 j (by simpa using hj)
    | succ i =>
      cases j with
      | zero => exact (hd0 i (by simpa using hi)).symm
      | succ j => exact d (i + 1) (j + 1) (by omega) (by simpa using hi) (by simpa using hj)

/-- append of one element, itself a part, to a slice of ByteArray. -/
theorem st1_StringS {w0 w : World} {ps : List Ob} {ops : Array Oper} {rest : List Oper} {o : Oper} {a : Act} {Q : Exit → Act → World → Prop} {s x : Operand} {v : Value} {l : List (ByteArray)} {b c : Nat} {y : ByteArray} {cs : List Value}
    (S : Star w0 w (oE (sliceE strE 9) [v] l :: oE strE cs y :: ps)) (hgd : o.guard = none)
    (ho : o.op = .call { callee := .builtin .append, args := #[s, x], argTypes := #[47, 47] }) (hv : a.eval s = v)
    (hx : a.eval x = .slice (some ⟨b, 0, none⟩) 1 c) (hc : ∀ j u, cs[j]? = some u → w.cell? ⟨b, j, none⟩ = some u) (h1 : ∀ u, u ∈ cs → u.oneCell' = true) (hlen : l.length ≤ 1000000000000)
    (h : ∀ sa sn sc w', Star w0 w' (oE (sliceE strE 9) [.slice sa sn sc] (l ++ [y]) :: ps) → wpList Tryd.prog ops Q rest (a.put o.dst (.slice sa sn sc)) w') : wpList Tryd.prog ops Q (o :: rest) a w := by
  obtain ⟨B, fp, hh, d⟩ := S
  obtain ⟨p1, p2, p3⟩ := hh 0 _ rfl
  obtain ⟨q1, q2, q3⟩ := hh 1 _ rfl
  have d01 := d 1 0 (by omega) (by simp) (by simp)
  refine app1_StringS hgd s x ho hv p1 p2 hx hc h1 q1 q2 d01 hlen (fun v' w' fp' k1 k2 k3 k4 => ?_)
  obtain ⟨sa, sn, sc, rfl⟩ := ow_slice k1
  refine h sa sn sc w' ⟨B.trans (k4.below (fun b hb => (p3 b hb).1) B.size), fun i => match i with | 0 => fp' | i + 1 => fp (i + 2), fun i Q hQ => ?_, fun i j hij hi hj => ?_⟩
  · cases i with
    | zero =>
      obtain rfl : _ = Q := by simpa using hQ
      refine ⟨k1, k2, fun b hm => ⟨?_, Enc.ow_lt _ k1 b hm⟩⟩
      rcases k3 b hm with h1 | h1 | h1
      · exact (p3 b h1).1
      · exact (q3 b h1).1
      · have := B.size; omega
    | succ i =>
      have hQ' : ps[i]? = some Q := by simpa using hQ
      obtain ⟨h1, h2, h3⟩ := hh (i + 2) Q hQ'
      have hil := (List.getElem?_eq_some_iff.1 hQ').1
      refine ⟨Q.frame (fun b hm => k4.block b (h3 b hm).2 (fun hf => ?_)) h1, h2, fun b hm => ⟨(h3 b hm).1, Nat.lt_of_lt_of_le (h3 b hm).2 k4.size⟩⟩
      exact d 0 (i + 2) (by omega) (by simp) (by simpa using hil) b hf hm
  · have hd0 : ∀ i, i < ps.length → Dj fp' (fp (i + 2)) := by
      intro i hi b hb1 hb2
      rcases k3 b hb1 with h1 | h1 | h1
      · exact d 0 (i + 2) (by omega) (by simp) (by simpa using hi) b h1 hb2
      · exact d 1 (i + 2) (by omega) (by simp) (by simpa using hi) b h1 hb2
      · have := ((hh (i + 2) _ (by rw [List.getElem?_cons_succ, List.getElem?_cons_succ]; exact List.getElem?_eq_getElem hi)).2.2 b hb2).2
        omega
    cases i with
    | zero =>
      cases j with
      | zero => exact absurd rfl hij
      | succ j => exact hd0 j (by simpa using hj)
    | succ i =>
      cases j with
      | zero => exact (hd0 i (by simpa using hi)).symm
      | succ j => exact d (i + 2) (j + 2) (by omega) (by simpa using hi) (by simpa using hj)

/-- append of several elements that lead nowhere. -/
theorem stS_StringS {w0 w : World} {ps : List Ob} {ops : Array Oper} {rest : List Oper} {o : Oper} {a : Act} {Q : Exit → Act → World → Prop} {s x : Operand} {v : Value} {l : List (ByteArray)} {ys : List (ByteArray)} {css : List (List Value)} {fys : List (List Nat)}
    (S : Star w0 w (oE (sliceE strE 9) [v] l :: ps)) (hgd : o.guard = none)
    (ho : o.op = .call { callee := .builtin .append, args := #[s, x], argTypes := #[47, 47] }) (hv : a.eval s = v)
    (hys : OwAll (strE) w ys css fys) (hfy : fys.flatten = []) (hs : SrcS w (strE).size (a.eval x) ys.length css.flatten) (hlen : l.length + ys.length ≤ 1000000000000)
    (h : ∀ sa sn sc w', Star w0 w' (oE (sliceE strE 9) [.slice sa sn sc] (l ++ ys) :: ps) → wpList Tryd.prog ops Q rest (a.put o.dst (.slice sa sn sc)) w') : wpList Tryd.prog ops Q (o :: rest) a w := by
  obtain ⟨B, fp, hh, d⟩ := S
  obtain ⟨p1, p2, p3⟩ := hh 0 _ rfl
  refine appS_StringS hgd s x ho hv p1 hys hs (by rw [hfy, List.append_nil]; exact p2) hlen (fun v' w' fp' k1 k2 k3 k4 => ?_)
  rw [hfy] at k3
  obtain ⟨sa, sn, sc, rfl⟩ := ow_slice k1
  refine h sa sn sc w' ⟨B.trans (k4.below (fun b hb => (p3 b hb).1) B.size), fun i => match i with | 0 => fp' | i + 1 => fp (i + 1), fun i Q hQ => ?_, fun i j hij hi hj => ?_⟩
  · cases i with
    | zero =>
      obtain rfl : _ = Q := by simpa using hQ
      refine ⟨k1, k2, fun b hm => ⟨?_, Enc.ow_lt _ k1 b hm⟩⟩
      rcases k3 b hm with h1 | h1 | h1
      · exact (p3 b h1).1
      · cases h1
      · have := B.size; omega
    | succ i =>
      have hQ' : ps[i]? = some Q := by simpa using hQ
      obtain ⟨h1, h2, h3⟩ := hh (i + 1) Q hQ'
      have hil := (List.getElem?_eq_some_iff.1 hQ').1
      refine ⟨Q.frame (fun b hm => k4.block b (h3 b hm).2 (fun hf => ?_)) h1, h2, fun b hm => ⟨(h3 b hm).1, Nat.lt_of_lt_of_le (h3 b hm).2 k4.size⟩⟩
      exact d 0 (i + 1) (by omega) (by simp) (by simpa using hil) b hf hm
  · have hd0 : ∀ i, i < ps.length → Dj fp' (fp (i + 1)) := by
      intro i hi b hb1 hb2
      rcases k3 b hb1 with h1 | h1 | h1
      · exact d 0 (i + 1) (by omega) (by simp) (by simpa using hi) b h1 hb2
      · cases h1
      · have := ((hh (i + 1) _ (by rw [List.getElem?_cons_succ]; exact List.getElem?_eq_getElem hi)).2.2 b hb2).2
        omega
    cases i with
    | zero =>
      cases j with
      | zero => exact absurd rfl hij
      | succ j => exact hd0 j (by simpa using hj)
    | succ i =>
      cases j with
      | zero => exact (hd0 i (by simpa using hi)).symm
      | succ j => exact d (i + 1) (j + 1) (by omega) (by simpa using hi) (by simpa using hj)

/-- append of one element, itself a part, to a slice of List ByteArray. -/
theorem st1_StringSS {w0 w : World} {ps : List Ob} {ops : Array Oper} {rest : List Oper} {o : Oper} {a : Act} {Q : Exit → Act → World → Prop} {s x : Operand} {v : Value} {l : List (List ByteArray)} {b c : Nat} {y : List ByteArray} {cs : List Value}
    (S : Star w0 w (oE (sliceE strsE 47) [v] l :: oE strsE cs y :: ps)) (hgd : o.guard = none)
    (ho : o.op = .call { callee := .builtin .append, args := #[s, x], argTypes := #[25, 25] }) (hv : a.eval s = v)
    (hx : a.eval x = .slice (some ⟨b, 0, none⟩) 1 c) (hc : ∀ j u, cs[j]? = some u → w.cell? ⟨b, j, none⟩ = some u) (h1 : ∀ u, u ∈ cs → u.oneCell' = true) (hlen : l.length ≤ 1000000000000)
    (h : ∀ sa sn sc w', Star w0 w' (oE (sliceE strsE 47) [.slice sa sn sc] (l ++ [y]) :: ps) → wpList Tryd.prog ops Q rest (a.put o.dst (.slice sa sn sc)) w') : wpList Tryd.prog ops Q (o :: rest) a w := by
  obtain ⟨B, fp, hh, d⟩ := S
  obtain ⟨p1, p2, p3⟩ := hh 0 _ rfl
  obtain ⟨q1, q2, q3⟩ := hh 1 _ rfl
  have d01 := d 1 0 (by omega) (by simp) (by simp)
  refine app1_StringSS hgd s x ho hv p1 p2 hx hc h1 q1 q2 d01 hlen (fun v' w' fp' k1 k2 k3 k4 => ?_)
  obtain ⟨sa, sn, sc, rfl⟩ := ow_slice k1
  refine h sa sn sc w' ⟨B.trans (k4.below (fun b hb => (p3 b hb).1) B.size), fun i => match i with | 0 => fp' | i + 1 => fp (i + 2), fun i Q hQ => ?_, fun i j hij hi hj => ?_⟩
  · cases i with
    | zero =>
      obtain rfl : _ = Q := by simpa using hQ
      refine ⟨k1, k2, fun b hm => ⟨?_, Enc.ow_lt _ k1 b hm⟩⟩
      rcases k3 b hm with h1 | h1 | h1
      · exact (p3 b h1).1
      · exact (q3 b h1).1
      · have := B.size; omega
    | succ i =>
      have hQ' : ps[i]? = some Q := by simpa using hQ
      obtain ⟨h1, h2, h3⟩ := hh (i + 2) Q hQ'
      have hil := (List.getElem?_eq_some_iff.1 hQ').1
      refine ⟨Q.frame (fun b hm => k4.block b (h3 b hm).2 (fun hf => ?_)) h1, h2, fun b hm => ⟨(h3 b hm).1, Nat.lt_of_lt_of_le (h3 b hm).2 k4.size⟩⟩
      exact d 0 (i + 2) (by omega) (by simp) (by simpa using hil) b hf hm
  · have hd0 : ∀ i, i < ps.length → Dj fp' (fp (i + 2)) := by
      intro i hi b hb1 hb2
      rcases k3 b hb1 with h1 | h1 | h1
      · exact d 0 (i + 2) (by omega) (by simp) (by simpa using hi) b h1 hb2
      · exact d 1 (i + 2) (by omega) (by simp) (by simpa using hi) b h1 hb2
      · have := ((hh (i + 2) _ (by rw [List.getElem?_cons_succ, List.getElem?_cons_succ]; exact List.getElem?_eq_getElem hi)).2.2 b hb2).2
        omega
    cases i with
    | zero =>
      cases j with
      | zero => exact absurd rfl hij
      | succ j => exact hd0 j (by simpa using hj)
    | succ i =>
      cases j with
      | zero => exact (hd0 i (by simpa using hi)).symm
      | succ j => exact d (i + 2) (j + 2) (by omega) (by simpa using hi) (by simpa using hj)

/-- append of one element, itself a part, to a slice of Move. -/
theorem st1_MoveS {w0 w : World} {ps : List Ob} {ops : Array Oper} {rest : List Oper} {o : Oper} {a : Act} {Q : Exit → Act → World → Prop} {s x : Operand} {v : Value} {l : List (Move)} {b c : Nat} {y : Move} {cs : List Value}
    (S : Star w0 w (oE (sliceE moveE 65) [v] l :: oE moveE cs y :: ps)) (hgd : o.guard = none)
    (ho : o.op = .call { callee := .builtin .append, args := #[s, x], argTypes := #[66, 66] }) (hv : a.eval s = v)
    (hx : a.eval x = .slice (some ⟨b, 0, none⟩) 1 c) (hc : ∀ j u, cs[j]? = some u → w.cell? ⟨b, j, none⟩ = some u) (h1 : ∀ u, u ∈ cs → u.oneCell' = true) (hlen : l.length ≤ 1000000000000)
    (h : ∀ sa sn sc w', Star w0 w' (oE (sliceE moveE 65) [.slice sa sn sc] (l ++ [y]) :: ps) → wpList Tryd.prog ops Q rest (a.put o.dst (.slice sa sn sc)) w') : wpList Tryd.prog ops Q (o :: rest) a w := by
  obtain ⟨B, fp, hh, d⟩ := S
  obtain ⟨p1, p2, p3⟩ := hh 0 _ rfl
  obtain ⟨q1, q2, q3⟩ := hh 1 _ rfl
  have d01 := d 1 0 (by omega) (by simp) (by simp)
  refine app1_MoveS hgd s x ho hv p1 p2 hx hc h1 q1 q2 d01 hlen (fun v' w' fp' k1 k2 k3 k4 => ?_)
  obtain ⟨sa, sn, sc, rfl⟩ := ow_slice k1
  refine h sa sn sc w' ⟨B.trans (k4.below (fun b hb => (p3 b hb).1) B.size), fun i => match i with | 0 => fp' | i + 1 => fp (i + 2), fun i Q hQ => ?_, fun i j hij hi hj => ?_⟩
  · cases i with
    | zero =>
      obtain rfl : _ = Q := by simpa using hQ
      refine ⟨k1, k2, fun b hm => ⟨?_, Enc.ow_lt _ k1 b hm⟩⟩
      rcases k3 b hm with h1 | h1 | h1
      · exact (p3 b h1).1
      · exact (q3 b h1).1
      · have := B.size; omega
    | succ i =>
      have hQ' : ps[i]? = some Q := by simpa using hQ
      obtain ⟨h1, h2, h3⟩ := hh (i + 2) Q hQ'
      have hil := (List.getElem?_eq_some_iff.1 hQ').1
      refine ⟨Q.frame (fun b hm => k4.block b (h3 b hm).2 (fun hf => ?_)) h1, h2, fun b hm => ⟨(h3 b hm).1, Nat.lt_of_lt_of_le (h3 b hm).2 k4.size⟩⟩
      exact d 0 (i + 2) (by omega) (by simp) (by simpa using hil) b hf hm
  · have hd0 : ∀ i, i < ps.length → Dj fp' (fp (i + 2)) := by
      intro i hi b hb1 hb2
      rcases k3 b hb1 with h1 | h1 | h1
      · exact d 0 (i + 2) (by omega) (by simp) (by simpa using hi) b h1 hb2
      · exact d 1 (i + 2) (by omega) (by simp) (by simpa using hi) b h1 hb2
      · have := ((hh (i + 2) _ (by rw [List.getElem?_cons_succ, List.getElem?_cons_succ]; exact List.getElem?_eq_getElem hi)).2.2 b hb2).2
        omega
    cases i with
    | zero =>
      cases j with
      | zero => exact absurd rfl hij
      | succ j => exact hd0 j (by simpa using hj)
    | succ i =>
      cases j with
      | zero => exact (hd0 i (by simpa using hi)).symm
      | succ j => exact d (i + 2) (j + 2) (by omega) (by simpa using hi) (by simpa using hj)

/-- append of several elements that lead nowhere. -/
theorem stS_MoveS {w0 w : World} {ps : List Ob} {ops : Array Oper} {rest : List Oper} {o : Oper} {a : Act} {Q : Exit → Act → World → Prop} {s x : Operand} {v : Value} {l : List (Move)} {ys : List (Move)} {css : List (List Value)} {fys : List (List Nat)}
    (S : Star w0 w (oE (sliceE moveE 65) [v] l :: ps)) (hgd : o.guard = none)
    (ho : o.op = .call { callee := .builtin .append, args := #[s, x], argTypes := #[66, 66] }) (hv : a.eval s = v)
    (hys : OwAll (moveE) w ys css fys) (hfy : fys.flatten = []) (hs : SrcS w (moveE).size (a.eval x) ys.length css.flatten) (hlen : l.length + ys.length ≤ 1000000000000)
    (h : ∀ sa sn sc w', Star w0 w' (oE (sliceE moveE 65) [.slice sa sn sc] (l ++ ys) :: ps) → wpList Tryd.prog ops Q rest (a.put o.dst (.slice sa sn sc)) w') : wpList Tryd.prog ops Q (o :: rest) a w := by
  obtain ⟨B, fp, hh, d⟩ := S
  obtain ⟨p1, p2, p3⟩ := hh 0 _ rfl
  refine appS_MoveS hgd s x ho hv p1 hys hs (by rw [hfy, List.append_nil]; exact p2) hlen (fun v' w' fp' k1 k2 k3 k4 => ?_)
  rw [hfy] at k3
  obtain ⟨sa, sn, sc, rfl⟩ := ow_slice k1
  refine h sa sn sc w' ⟨B.trans (k4.below (fun b hb => (p3 b hb).1) B.size), fun i => match i with | 0 => fp' | i + 1 => fp (i + 1), fun i Q hQ => ?_, fun i j hij hi hj => ?_⟩
  · cases i with
    | zero =>
      obtain rfl : _ = Q := by simpa using hQ
      refine ⟨k1, k2, fun b hm => ⟨?_, Enc.ow_lt _ k1 b hm⟩⟩
      rcases k3 b hm with h1 | h1 | h1
      · exact (p3 b h1).1
      · cases h1
      · have := B.size; omega
    | succ i =>
      have hQ' : ps[i]? = some Q := by simpa using hQ
      obtain ⟨h1, h2, h3⟩ := hh (i + 1) Q hQ'
      have hil := (List.getElem?_eq_some_iff.1 hQ').1
      refine ⟨Q.frame (fun b hm => k4.block b (h3 b hm).2 (fun hf => ?_)) h1, h2, fun b hm => ⟨(h3 b hm).1, Nat.lt_of_lt_of_le (h3 b hm).2 k4.size⟩⟩
      exact d 0 (i + 1) (by omega) (by simp) (by simpa using hil) b hf hm
  · have hd0 : ∀ i, i < ps.length → Dj fp' (fp (i + 1)) := by
      intro i hi b hb1 hb2
      rcases k3 b hb1 with h1 | h1 | h1
      · exact d 0 (i + 1) (by omega) (by simp) (by simpa using hi) b h1 hb2
      · cases h1
      · have := ((hh (i + 1) _ (by rw [List.getElem?_cons_succ]; exact List.getElem?_eq_getElem hi)).2.2 b hb2).2
        omega
    cases i with
    | zero =>
      cases j with
      | zero => exact absurd rfl hij
      | succ j => exact hd0 j (by simpa using hj)
    | succ i =>
      cases j with
      | zero => exact (hd0 i (by simpa using hi)).symm
      | succ j => exact d (i + 1) (j + 1) (by omega) (by simpa using hi) (by simpa using hj)

/-- append of one element, itself a part, to a slice of List Move. -/
theorem st1_MoveSS {w0 w : World} {ps : List Ob} {ops : Array Oper} {rest : List Oper} {o : Oper} {a : Act} {Q : Exit → Act → World → Prop} {s x : Operand} {v : Value} {l : List (List Move)} {b c : Nat} {y : List Move} {cs : List Value}
    (S : Star w0 w (oE (sliceE movesE 66) [v] l :: oE movesE cs y :: ps)) (hgd : o.guard = none)
    (ho : o.op = .call { callee := .builtin .append, args := #[s, x], argTypes := #[30, 30] }) (hv : a.eval s = v)
    (hx : a.eval x = .slice (some ⟨b, 0, none⟩) 1 c) (hc : ∀ j u, cs[j]? = some u → w.cell? ⟨b, j, none⟩ = some u) (h1 : ∀ u, u ∈ cs → u.oneCell' = true) (hlen : l.length ≤ 1000000000000)
    (h : ∀ sa sn sc w', Star w0 w' (oE (sliceE movesE 66) [.slice sa sn sc] (l ++ [y]) :: ps) → wpList Tryd.prog ops Q rest (a.put o.dst (.slice sa sn sc)) w') : wpList Tryd.prog ops Q (o :: rest) a w := by
  obtain ⟨B, fp, hh, d⟩ := S
  obtain ⟨p1, p2, p3⟩ := hh 0 _ rfl
  obtain ⟨q1, q2, q3⟩ := hh 1 _ rfl
  have d01 := d 1 0 (by omega) (by simp) (by simp)
  refine app1_MoveSS hgd s x ho hv p1 p2 hx hc h1 q1 q2 d01 hlen (fun v' w' fp' k1 k2 k3 k4 => ?_)
  obtain ⟨sa, sn, sc, rfl⟩ := ow_slice k1
  refine h sa sn sc w' ⟨B.trans (k4.below (fun b hb => (p3 b hb).1) B.size), fun i => match i with | 0 => fp' | i + 1 => fp (i + 2), fun i Q hQ => ?_, fun i j hij hi hj => ?_⟩
  · cases i with
    | zero =>
      obtain rfl : _ = Q := by simpa using hQ
      refine ⟨k1, k2, fun b hm => ⟨?_, Enc.ow_lt _ k1 b hm⟩⟩
      rcases k3 b hm with h1 | h1 | h1
      · exact (p3 b h1).1
      · exact (q3 b h1).1
      · have := B.size; omega
    | succ i =>
      have hQ' : ps[i]? = some Q := by simpa using hQ
      obtain ⟨h1, h2, h3⟩ := hh (i + 2) Q hQ'
      have hil := (List.getElem?_eq_some_iff.1 hQ').1
      refine ⟨Q.frame (fun b hm => k4.block b (h3 b hm).2 (fun hf => ?_)) h1, h2, fun b hm => ⟨(h3 b hm).1, Nat.lt_of_lt_of_le (h3 b hm).2 k4.size⟩⟩
      exact d 0 (i + 2) (by omega) (by simp) (by simpa using hil) b hf hm
  · have hd0 : ∀ i, i < ps.length → Dj fp' (fp (i + 2)) := by
      intro i hi b hb1 hb2
      rcases k3 b hb1 with h1 | h1 | h1
      · exact d 0 (i + 2) (by omega) (by simp) (by simpa using hi) b h1 hb2
      · exact d 1 (i + 2) (by omega) (by simp) (by simpa using hi) b h1 hb2
      · have := ((hh (i + 2) _ (by rw [List.getElem?_cons_succ, List.getElem?_cons_succ]; exact List.getElem?_eq_getElem hi)).2.2 b hb2).2
        omega
    cases i with
    | zero =>
      cases j with
      | zero => exact absurd rfl hij
      | succ j => exact hd0 j (by simpa using hj)
    | succ i =>
      cases j with
      | zero => exact (hd0 i (by simpa using hi)).symm
      | succ j => exact d (i + 2) (j + 2) (by omega) (by simpa using hi) (by simpa using hj)

end Go.Proofs.YtnkhgfdlehhjmaaDoor

/-
  The library's Clone at the program's types (written by a program of this claim's own, gen_clone.py).
-/
namespace Go.Proofs.YtnkhgfdlehhjmaaDoor
open Go.RowKit

theorem src_ints {w : World} {B : Nat} {v : Value} {l : List Int} (h : (intsE).rd w B [v] l) : ∃ css fys, OwAll intE w l css fys ∧ fys.flatten = [] ∧ SrcS w intE.size v l.length css.flatten := by
  refine src_of_rd (fun x => [.int .i64 x]) ?_ (fun x u hu => by simp at hu; subst hu; rfl) h
  intro x cs h
  exact ⟨h.1, ⟨⟨h.1 ▸ rfl, h.2⟩, rfl⟩⟩

theorem src_bools {w : World} {B : Nat} {v : Value} {l : List Bool} (h : (boolsE).rd w B [v] l) : ∃ css fys, OwAll boolE w l css fys ∧ fys.flatten = [] ∧ SrcS w boolE.size v l.length css.flatten := by
  refine src_of_rd (fun x => [.bool x]) ?_ (fun x u hu => by simp at hu; subst hu; rfl) h
  intro x cs h
  exact ⟨h, ⟨h ▸ rfl, rfl⟩⟩

theorem src_strs {w : World} {B : Nat} {v : Value} {l : List ByteArray} (h : (strsE).rd w B [v] l) : ∃ css fys, OwAll strE w l css fys ∧ fys.flatten = [] ∧ SrcS w strE.size v l.length css.flatten := by
  refine src_of_rd (fun x => [.string x]) ?_ (fun x u hu => by simp at hu; subst hu; rfl) h
  intro x cs h
  exact ⟨h.1, ⟨⟨h.1 ▸ rfl, h.2⟩, rfl⟩⟩

set_option maxHeartbeats 400000 in
theorem clone_strs (v : Value) (l : List ByteArray) (B : Nat) (w : World) (hB0 : B ≤ w.heap.size) (h : strsE.rd w B [v] l) (hl : l.length ≤ 1000000000000) : Calls Tryd.prog 63 #[v] w (Makes strsE id l w) := by
  have R := Lib.hid h
  obtain ⟨a, n, cap, rfl⟩ := rd_slice h
  have hnil : a = none → l = [] := by
    intro ha
    obtain ⟨a', cap', he, h1, h2, h3, h4⟩ := h
    have hc : a = a' := by have := he; simp at this; exact this.1
    exact List.eq_nil_of_length_eq_zero (by have := h3 (hc ▸ ha); omega)
  have hk := fun w => Lib.run_eql_slice_nil (P := Tryd.prog) w _ _ a n cap 0 0 Tryd.underlying47
  clear h
  rcases a with _ | ad
  · have hl0 : l = [] := hnil rfl
    subst hl0
    clear R hnil
    go_enter Tryd.func63, Tryd.ntmps63
    go_wp2
    go_ret
    exact ⟨_, [], rfl, ow_nil _ _ _, List.nodup_nil, (fun b hb => by cases hb), Below.refl _ _⟩
  · clear hnil
    obtain ⟨W, hW⟩ : ∃ W, W = w.alloc (.cells #[] 9) := ⟨_, rfl⟩
    have hb : Below w.heap.size w W := hW ▸ ((Below.refl _ w).alloc (Nat.le_refl _) _)
    have hown : strsE.ow W [.slice (some ⟨w.heap.size, 0, none⟩) 0 0] [] [w.heap.size] := ow_lit (E := strE) (l := []) (fun _ => undef) rfl (fun x hx => by cases hx) (hW ▸ Blk.new w #[] 9) (Nat.zero_le _)
    obtain ⟨css, fys, hys, hf, hs⟩ := src_strs (strsE.rd_of (hb.mono hB0) R.out)
    have HB := Lib.hid hb
    subst hW
    have hd : ([w.heap.size] ++ fys.flatten).Nodup := by rw [hf]; simp
    have HF := Lib.hid hf
    have hl' : ([] : List ByteArray).length + l.length ≤ 1000000000000 := by simpa using hl
    clear hf hb
    go_enter Tryd.func63, Tryd.ntmps63
    go_wp2_with (at_builtin; refine appS_StringS rfl _ _ rfl rfl hown hys hs hd hl' ?_; intro v' w' fp' k1 k2 k3 k4)
    obtain ⟨sa, sn, sc, rfl⟩ := ow_slice k1
    go_ret
    rw [List.nil_append] at k1
    have hlo : ∀ b, b ∈ [w.heap.size] → w.heap.size ≤ b := by intro b hb; have : b = w.heap.size := by simpa using hb
                                                              omega
    refine ⟨.slice sa sn sc, fp', rfl, k1, k2, fun b hb => ?_, HB.out.trans (k4.below hlo (by simp))⟩
    rcases k3 b hb with h | h | h
    · have : b = w.heap.size := by simpa using h
      omega
    · rw [HF.out] at h; cases h
    · have := h; simp at this; omega

end Go.Proofs.YtnkhgfdlehhjmaaDoor

/-
  Plain lemmas: append of a whole slice of one's own; blocks of several cells an element; copy of such blocks. No program function is named here.
-/
namespace Go.Proofs.YtnkhgfdlehhjmaaDoor
open Go.RowKit

theorem srcS_own {α : Type} {E : Enc α} {ty : TypeId} {w : World} {v : Value} {l : List α} {f : List Nat} (h1 : ∀ w x cs f, E.ow w cs x f → ∀ u, u ∈ cs → u.oneCell' = true) (o : (sliceE E ty).ow w [v] l f) :
    ∃ css fys, OwAll E w l css fys ∧ SrcS w E.size v l.length css.flatten ∧ f = v.ownBlock.toList ++ fys.flatten := by
  obtain ⟨v', xss, fps, hv, a1, a2, rfl⟩ := o
  obtain rfl : v = v' := by simpa using hv
  have hone : ∀ u, u ∈ xss.flatten → u.oneCell' = true := by
    clear a2 hv
    induction a1 with
    | nil => intro u hu; simp at hu
    | cons b1 b2 ih =>
      intro u hu
      rw [List.flatten_cons] at hu
      rcases List.mem_append.1 hu with h | h
      · exact h1 _ _ _ _ b1 u h
      · exact ih u h
  refine ⟨xss, fps, a1, ?_, rfl⟩
  have hfl := a1.flat
  obtain ⟨-, a2⟩ := a2
  rcases a2 with ⟨rfl, hn⟩ | ⟨g, cap, cur, rfl, hg, hh, hc, hm, hs, ht⟩
  · refine .inl ⟨0, rfl, hn, ?_⟩
    rw [hn, Nat.zero_mul] at hfl
    exact List.eq_nil_of_length_eq_zero hfl
  · refine .inr ⟨⟨g, 0, none⟩, cap, rfl, hfl, fun j u hu => ?_, hone⟩
    rw [← ht, List.getElem?_take] at hu
    split at hu
    · rw [Addr.add_lit]
      simpa [World.cell?, hh] using hu
    · cases hu

theorem one_ints_ow : ∀ (w : World) (x : List Int) (cs : List Value) (f : List Nat), intsE.ow w cs x f → ∀ u, u ∈ cs → u.oneCell' = true := by
  intro w x cs f h u hu
  obtain ⟨v, rfl⟩ := one_of (Enc.rd_len _ (Enc.rd_ow _ h))
  obtain ⟨sa, sn, sc, rfl⟩ := ow_slice h
  have : u = .slice sa sn sc := by simpa using hu
  subst this; rfl

theorem flatMap_len' {α : Type} (c : α → List Value) (s : Nat) (l : List α) (hc : ∀ x, x ∈ l → (c x).length = s) : (l.flatMap c).length = l.length * s := by
  induction l with
  | nil => simp
  | cons a l ih => rw [List.flatMap_cons, List.length_append, ih (fun x hx => hc x (by simp [hx])), hc a (by simp), List.length_cons, Nat.succ_mul]; omega

section
variable {w0 w w' : World} {ps : List Ob}
/-- A block that a copy has written into. -/
theorem Star.row {b : Nat} {cs : List Value} {ty : TypeId} (S : Star w0 w (oB b cs ty :: ps)) (cs' : List Value) : Star w0 (w.setRow b cs'.toArray) (oB b cs' ty :: ps) :=
  S.upd fun f hf _ hl => by
    obtain ⟨hb, rfl⟩ := hf
    refine ⟨[b], ⟨setRow_heap w b _ _ ty _ hb, rfl⟩, by simp, fun b hb => .inl hb, fun b hb => by simpa [World.setRow] using hl b hb, ⟨rfl, rfl, rfl, by simp [World.setRow], fun k hk hn => ?_⟩⟩
    exact setRow_other w b k cs'.toArray (fun e => hn (by simp [e]))

/-- A slice of one element that has just been made itself. -/
theorem Star.lit1 {α : Type} {E : Enc α} {ty : TypeId} {g : Nat} {v : Value} {y : α} (S : Star w0 w (oB g [v] ty :: oE E [v] y :: ps)) (hE : E.size = 1) : Star w0 w (oE (sliceE E ty) [.slice (some ⟨g, 0, none⟩) 1 1] [y] :: ps) :=
  S.join fun f h hf hh => by
    obtain ⟨hb, rfl⟩ := hf
    refine ⟨_, [[v]], [h], rfl, OwAll.one hh, ?_, by simp [Value.ownBlock]⟩
    exact ⟨by simp [hE], .inr ⟨g, 1, #[v], rfl, Nat.zero_le _, hb, by simp, by simp [maxLen], by simp [hE], by simp [hE]⟩⟩

theorem Star.slcN (S : Star w0 w ps) (n : Nat) {α : Type} {E : Enc α} {t : TypeId} {v : Value} {a : List α} (h : ps[n]? = some (oE (sliceE E t) [v] a)) : ∃ sa sc, v = .slice sa a.length sc := by
  obtain ⟨f, o⟩ := S.own n h
  obtain ⟨sa, sc, hv, -⟩ := Enc.rd_ow _ o
  exact ⟨sa, sc, by simpa using hv⟩

/-- What has just been written into a block, as a slice whose elements are several cells. -/
theorem Star.lits {α : Type} {E : Enc α} {ty : TypeId} {g : Nat} {vs : List Value} (S : Star w0 w (oB g vs ty :: ps)) (l : List α) (c : α → List Value) (n : Nat) (hn : l.length = n) (hv : vs = l.flatMap c) (hf : ∀ x, x ∈ l → E.ow w (c x) x []) (hl : n ≤ maxLen) :
    Star w0 w (oE (sliceE E ty) [.slice (some ⟨g, 0, none⟩) n n] l :: ps) :=
  S.upd fun q hq _ hlt => by
    subst hn hv
    obtain ⟨hb, rfl⟩ := hq
    have key := flatMap_len' c E.size l (fun x hx => Enc.rd_len _ (Enc.rd_ow _ (hf x hx)))
    refine ⟨[g], ?_, by simp, fun b hb => .inl hb, hlt, But.refl _ _⟩
    exact ow_flats (base := 0) c hf ⟨by rw [key], .inr ⟨g, l.length, (l.flatMap c).toArray, rfl, Nat.zero_le _, hb, Nat.le_refl _, hl, by simp [key], by rw [List.take_of_length_le] <;> simp [key]⟩⟩
end

theorem run_copy_wide {P : Program} (w : World) (dT sT ty elem : TypeId) (g o dLen dCap : Nat) (a : Addr) (sLen sCap size : Nat) (cur : Array Value) (t : TypeId) (cs : List Value)
    (hu : P.underlying dT = some (.slice elem)) (hs : (P.info? elem).map (·.size) = some size)
    (hg : w.heap[g]? = some (.cells cur t (0, 0))) (hn : cs.length = Nat.min sLen dLen * size)
    (hsrc : ∀ j v, cs[j]? = some v → w.cell? (a.add j) = some v) (hfit : o + cs.length ≤ cur.size) (h1 : ∀ v ∈ cs, v.oneCell' = true) :
    (Builtin.copy_ #[dT, sT] ty #[.slice (some ⟨g, o, none⟩) dLen dCap, .slice (some a) sLen sCap]).run P w =
      .ok (goInt (Nat.min sLen dLen)) (w.setRow g (cur.toList.take o ++ cs ++ cur.toList.drop (o + cs.length)).toArray) := by
  have hl := run_loadCells_list (P := P) w a cs hsrc
  have hst := run_storeCells_at P g o t cs 0 cur w hg (by simpa using hfit) h1
  cases hq : P.info? elem with
  | none => simp [hq] at hs
  | some i =>
    have hi : i.size = size := by simpa [hq] using hs
    simp [Builtin.copy_, run_underlying hu, Builtin.lenOf, Builtin.firstCells, sizeOf, typeInfo, hq, hi, ← hn, hl, hst]

theorem wpList_copy_wide {P : Program} {w : World} {ops : Array Oper} {rest : List Oper} {o : Oper} {a : Act} {Q : Exit → Act → World → Prop} (hgd : o.guard = none) (d s : Operand) (dT sT : TypeId)
    (ho : o.op = .call { callee := .builtin .copy, args := #[d, s], argTypes := #[dT, sT] }) (elem : TypeId) (size : Nat) (hu : P.underlying dT = some (.slice elem)) (hsz : (P.info? elem).map (·.size) = some size)
    (g off dLen dCap : Nat) (ad : Addr) (sLen sCap : Nat) (hd : a.eval d = .slice (some ⟨g, off, none⟩) dLen dCap) (hs : a.eval s = .slice (some ad) sLen sCap)
    (cur : List Value) (t : TypeId) (hg : Blk w g cur t) (cs : List Value) (m : Nat) (hm : m = Nat.min sLen dLen) (hn : cs.length = m * size)
    (hsrc : ∀ j v, cs[j]? = some v → w.cell? (ad.add j) = some v) (hfit : off + cs.length ≤ cur.length) (h1 : ∀ v ∈ cs, v.oneCell' = true) (new : List Value) (hnew : cur.take off ++ cs ++ cur.drop (off + cs.length) = new) (B : Nat) (w0 : World) (hb : Below B w0 w) (hBg : B ≤ g)
    (h : ∀ w', Hid (Blk w' g new t) → Below B w0 w' → wpList P ops Q rest (a.put o.dst (.int .i64 (m : Int))) w') : wpList P ops Q (o :: rest) a w := by
  subst hm hnew
  refine wpList_plain hgd fun K hK => ?_
  have hrun := run_copy_wide (P := P) w dT sT o.type elem g off dLen dCap ad sLen sCap size cur.toArray t cs hu hsz hg hn hsrc (by simpa using hfit) h1
  have h := h _ (show _ = _ from setRow_heap w g _ (cur.take off ++ cs ++ cur.drop (off + cs.length)).toArray t _ hg) (below_setRow hb hBg _)
  unfold Oper.wp
  simp [execOp, ho, resolve, invoke, builtin, hd, hs, hrun, Result.andThen]
  simp only [List.append_assoc] at h
  exact hK _ _ h

theorem step_copy_wide {P : Program} {ops : Array Oper} {o : Oper} {a : Act} {w : World} {K : Act → World → Prop} {Q : Exit → Act → World → Prop} {E : Prop} (hgd : o.guard = none) (d s : Operand) (dT sT : TypeId)
    (ho : o.op = .call { callee := .builtin .copy, args := #[d, s], argTypes := #[dT, sT] }) (elem : TypeId) (size : Nat) (hu : P.underlying dT = some (.slice elem)) (hsz : (P.info? elem).map (·.size) = some size)
    (g off dLen dCap : Nat) (ad : Addr) (sLen sCap : Nat) (hd : a.eval d = .slice (some ⟨g, off, none⟩) dLen dCap) (hs : a.eval s = .slice (some ad) sLen sCap)
    (cur : List Value) (t : TypeId) (hg : Blk w g cur t) (cs : List Value) (m : Nat) (hm : m = Nat.min sLen dLen) (hn : cs.length = m * size)
    (hsrc : ∀ j v, cs[j]? = some v → w.cell? (ad.add j) = some v) (hfit : off + cs.length ≤ cur.length) (h1 : ∀ v ∈ cs, v.oneCell' = true) (new : List Value) (hnew : cur.take off ++ cs ++ cur.drop (off + cs.length) = new) (B : Nat) (w0 : World) (hb : Below B w0 w) (hBg : B ≤ g)
    (h : ∀ w', Hid (Blk w' g new t) → Below B w0 w' → K (a.put o.dst (.int .i64 (m : Int))) w') :
    if Region.wanted o (yielded ops a.tmps) = true then Oper.wp P o a w K Q else E := by
  have hw : Region.wanted o (yielded ops a.tmps) = true := by simp [Region.wanted, hgd]
  rw [if_pos hw]
  subst hm hnew
  have hrun := run_copy_wide (P := P) w dT sT o.type elem g off dLen dCap ad sLen sCap size cur.toArray t cs hu hsz hg hn hsrc (by simpa using hfit) h1
  have h := h _ (show _ = _ from setRow_heap w g _ (cur.take off ++ cs ++ cur.drop (off + cs.length)).toArray t _ hg) (below_setRow hb hBg _)
  unfold Oper.wp
  simp [execOp, ho, resolve, invoke, builtin, hd, hs, hrun, Result.andThen]
  simp only [List.append_assoc] at h
  exact h

theorem src_cells {w : World} {b c m size : Nat} {news : List Value} (hl : news.length = m * size) (hc : ∀ j u, news[j]? = some u → w.cell? ⟨b, j, none⟩ = some u) (h1 : ∀ u, u ∈ news → u.oneCell' = true) : SrcS w size (.slice (some ⟨b, 0, none⟩) m c) m news :=
  .inr ⟨⟨b, 0, none⟩, c, rfl, hl, fun j u hu => by rw [Addr.add_lit]; simpa using hc j u hu, h1⟩

theorem one_ints (l : List Int) : ∀ u, u ∈ l.map (Value.int .i64) → u.oneCell' = true := by
  intro u hu
  obtain ⟨x, _, rfl⟩ := List.mem_map.1 hu
  rfl

theorem all2 {α : Type} {E : Enc α} {w : World} {x y : α} {cx cy : List Value} (h : E.ow w cx x []) (k : E.ow w cy y []) : OwAll E w [x, y] [cx, cy] [[], []] := .cons h (.cons k .nil)

theorem below_cell_alloc (w : World) (o : Obj) {a : Addr} (h : a.block < w.heap.size) : (w.alloc o).cell? a = w.cell? a := ((Below.refl w.heap.size w).alloc (Nat.le_refl _) o).cell h

theorem cell_al {w : World} {a : Addr} {v : Value} (h : w.cell? a = some v) (o : Obj) : (w.alloc o).cell? a = some v := by rw [below_cell_alloc w o (World.block_lt_of_cell? w _ h)]; exact h

theorem Star.drew {w0 w : World} {ps : List Ob} (S : Star w0 w ps) : Star w0 w.drew ps := S.step (Below.refl _ _).drew

end Go.Proofs.YtnkhgfdlehhjmaaDoor

/-
  Plain lemmas: an element of a slice of one's own is written anew.
-/
namespace Go.Proofs.YtnkhgfdlehhjmaaDoor
open Go.RowKit

theorem OwAll.set {α : Type} {E : Enc α} {w : World} {l : List α} {xss : List (List Value)} {fps : List (List Nat)} (h : OwAll E w l xss fps) {u : List Value} {y : α} {g : List Nat} (hy : E.ow w u y g) (i : Nat) :
    OwAll E w (l.set i y) (xss.set i u) (fps.set i g) := by
  induction h generalizing i with
  | nil => exact .nil
  | cons h1 h2 ih =>
    cases i with
    | zero => exact .cons hy h2
    | succ i => exact .cons h1 (ih i)

theorem OwAll.ones {α : Type} {E : Enc α} {w : World} {l : List α} {xss : List (List Value)} {fps : List (List Nat)} (h : OwAll E w l xss fps) (hE : E.size = 1) : ∀ x, x ∈ xss → x.length = 1 := by
  induction h with
  | nil => intro x hx; cases hx
  | cons h1 h2 ih =>
    intro x hx
    rcases List.mem_cons.1 hx with rfl | hx
    · rw [← hE]; exact E.rd_len (E.rd_ow h1)
    · exact ih x hx

theorem flatten_set1 {v : Value} : ∀ (xss : List (List Value)) (i : Nat), (∀ x, x ∈ xss → x.length = 1) → (xss.set i [v]).flatten = xss.flatten.set i v
  | [], i, _ => by simp
  | x :: xss, i, h => by
    obtain ⟨a, rfl⟩ := List.length_eq_one_iff.1 (h x (by simp))
    cases i with
    | zero => simp
    | succ i =>
      have := flatten_set1 (v := v) xss i (fun y hy => h y (by simp [hy]))
      simp [this]

theorem nodup_flatten_set {g : List Nat} : ∀ (fps : List (List Nat)) (i : Nat) (p : List Nat), (p ++ fps.flatten ++ g).Nodup → (p ++ (fps.set i g).flatten).Nodup
  | [], i, p, h => by
    rw [List.set_nil]
    exact (List.nodup_append.1 h).1
  | f :: fps, i, p, h => by
    cases i with
    | zero =>
      have h2 : (p ++ (fps.flatten ++ g)).Nodup := by
        refine List.Nodup.sublist ?_ h
        rw [List.append_assoc, List.flatten_cons, List.append_assoc]
        exact List.Sublist.append (List.Sublist.refl p) (List.sublist_append_right f _)
      rw [List.set_cons_zero, List.flatten_cons]
      exact ((List.perm_append_comm (l₁ := fps.flatten) (l₂ := g)).append_left p).nodup_iff.1 h2
    | succ i =>
      have := nodup_flatten_set (g := g) fps i (p ++ f) (by simpa [List.append_assoc] using h)
      rw [List.set_cons_succ, List.flatten_cons, ← List.append_assoc]
      exact this

theorem mem_flatten_set {g : List Nat} {b : Nat} : ∀ (fps : List (List Nat)) (i : Nat), b ∈ (fps.set i g).flatten → b ∈ fps.flatten ∨ b ∈ g
  | [], i, h => by simp at h
  | f :: fps, i, h => by
    cases i with
    | zero =>
      rw [List.set_cons_zero, List.flatten_cons] at h
      rcases List.mem_append.1 h with h | h
      · exact .inr h
      · exact .inl (by rw [List.flatten_cons]; exact List.mem_append_right _ h)
    | succ i =>
      rw [List.set_cons_succ, List.flatten_cons] at h
      rcases List.mem_append.1 h with h | h
      · exact .inl (by rw [List.flatten_cons]; exact List.mem_append_left _ h)
      · rcases mem_flatten_set fps i h with h | h
        · exact .inl (by rw [List.flatten_cons]; exact List.mem_append_right _ h)
        · exact .inr h

/-- Two parts held as one. -/
def oTwo (P Q : Ob) : Ob := ⟨fun w fp => ∃ f g, fp = f ++ g ∧ P.holds w f ∧ Q.holds w g, fun hf ⟨f, g, e, h1, h2⟩ => ⟨f, g, e, P.frame (fun b hb => hf b (by rw [e]; exact List.mem_append_left _ hb)) h1, Q.frame (fun b hb => hf b (by rw [e]; exact List.mem_append_right _ hb)) h2⟩⟩

theorem Star.setE {w0 w : World} {ps : List Ob} {α : Type} {E : Enc α} {ty : TypeId} {l : List α} {y : α} {u : Value} {g n c : Nat} (hE : E.size = 1) (S : Star w0 w (oE (sliceE E ty) [.slice (some ⟨g, 0, none⟩) n c] l :: oE E [u] y :: ps)) (i : Nat) (hi : i < l.length) :
    Star w0 (w.setCell ⟨g, i, none⟩ u) (oE (sliceE E ty) [.slice (some ⟨g, 0, none⟩) n c] (l.set i y) :: ps) := by
  have S2 := S.join (R := oTwo _ _) (fun f g h1 h2 => ⟨f, g, rfl, h1, h2⟩)
  refine S2.upd ?_
  rintro fp ⟨f, gf, rfl, ⟨v, xss, fps, he, h1, h2, rfl⟩, hy⟩ nd hlt
  simp only [List.cons.injEq, and_true] at he
  subst he
  have ew : w.heap[g]? = (w.heap[g]?) := rfl
  obtain ⟨hx, h3⟩ := h2
  rcases h3 with ⟨h3, -⟩ | ⟨g', cap, cur, e3, hg, hh, hc, hm, hs, ht⟩
  · cases h3
  simp only [Value.slice.injEq, Option.some.injEq, Addr.mk.injEq, and_true] at e3
  obtain ⟨rfl, rfl, rfl⟩ := e3
  have ob : (Value.slice (some ⟨g, 0, none⟩) l.length c).ownBlock.toList = [g] := rfl
  rw [ob] at nd hlt ⊢
  have hgl : g < w.heap.size := (Array.getElem?_eq_some_iff.1 hh).1
  have hB : Blk w g cur.toList ty := by unfold Blk; rw [hh]
  have hB' := hB.set i u
  have hone := h1.ones hE
  have hgn : g ∉ fps.flatten ++ gf := by
    rw [List.append_assoc, List.singleton_append, List.nodup_cons] at nd
    exact nd.1
  have fr : ∀ b, b ∈ fps.flatten ++ gf → (w.setCell ⟨g, i, none⟩ u).heap[b]? = w.heap[b]? := fun b hb => (((But.refl [g] w).setCell (a := ⟨g, i, none⟩) (by simp) u).block b (hlt b (by rw [List.append_assoc]; exact List.mem_append_right _ hb)) (fun e => hgn (by rw [List.mem_singleton] at e; exact e ▸ hb)))
  have o1 := (h1.frame (fun b hb => fr b (List.mem_append_left _ hb))).set (E.ow_frame (fun b hb => fr b (List.mem_append_right _ hb)) hy) i
  refine ⟨[g] ++ (fps.set i gf).flatten, ⟨_, xss.set i [u], fps.set i gf, rfl, o1, ⟨?_, .inr ⟨g, c, (cur.toList.set i u).toArray, by rw [List.length_set], Nat.zero_le _, hB', by rw [List.length_set]; exact hc, hm, by simpa using hs, ?_⟩⟩, rfl⟩, ?_, ?_, ?_, ?_⟩
  · rw [flatten_set1 _ _ hone, List.length_set, List.length_set]; exact hx
  · rw [flatten_set1 _ _ hone, List.length_set, ← ht, List.take_set]
  · exact nodup_flatten_set fps i [g] nd
  · intro b hb
    left
    rcases List.mem_append.1 hb with h | h
    · exact List.mem_append_left _ (List.mem_append_left _ h)
    · rcases mem_flatten_set fps i h with h | h
      · exact List.mem_append_left _ (List.mem_append_right _ h)
      · exact List.mem_append_right _ h
  · intro b hb
    rw [show (w.setCell ⟨g, i, none⟩ u).heap.size = w.heap.size from by simp]
    rcases List.mem_append.1 hb with h | h
    · exact hlt b (List.mem_append_left _ (List.mem_append_left _ h))
    · rcases mem_flatten_set fps i h with h | h
      · exact hlt b (List.mem_append_left _ (List.mem_append_right _ h))
      · exact hlt b (List.mem_append_right _ h)
  · exact (But.refl _ _).setCell (by simp) _

/-- The block of a slice of one's own. -/
theorem Star.at0 {w0 w : World} {ps : List Ob} (S : Star w0 w ps) (n : Nat) {α : Type} {E : Enc α} {ty : TypeId} {v : Value} {l : List α} (h : ps[n]? = some (oE (sliceE E ty) [v] l)) (hl : 0 < l.length) (hE : E.size = 1) :
    ∃ g c, v = .slice (some ⟨g, 0, none⟩) l.length c ∧ w0.heap.size ≤ g ∧ (∀ i, w.frozen? ⟨g, i, none⟩ = false) ∧ l.length ≤ c ∧ c ≤ maxLen ∧ ∀ i, i < l.length → ∃ x u f, l[i]? = some x ∧ w.cell? ⟨g, i, none⟩ = some u ∧ E.ow w [u] x f := by
  obtain ⟨_, fp, hh, _⟩ := S
  obtain ⟨⟨v', xss, fps, he, h1, h2, hfp⟩, nd, hlt⟩ := hh n _ h
  simp only [List.cons.injEq, and_true] at he
  subst he
  obtain ⟨hx, h3⟩ := h2
  rcases h3 with ⟨-, h3⟩ | ⟨g, cap, cur, rfl, hg, hh2, hc, hm, hs, ht⟩
  · omega
  have hB : Blk w g cur.toList ty := by unfold Blk; rw [hh2]
  refine ⟨g, cap, rfl, (hlt g (by rw [hfp]; simp [Value.ownBlock])).1, hB.free, hc, hm, fun i hi => ?_⟩
  obtain ⟨xs, f, e1, e2, e3, e4, e5⟩ := h1.rdAt (B := w.heap.size) (h1.lt) i l[i] (List.getElem?_eq_getElem hi)
  have hone := h1.ones hE xs (List.mem_of_getElem? e1)
  obtain ⟨u, rfl⟩ := List.length_eq_one_iff.1 hone
  refine ⟨l[i], u, f, List.getElem?_eq_getElem hi, ?_, e3⟩
  have := e5 0 u rfl
  rw [hE, Nat.mul_one, Nat.add_zero, ← ht, List.getElem?_take] at this
  split at this
  · exact hB.cell i (by simpa using this)
  · cases this

theorem Star.free0 {w0 w : World} {ps : List Ob} (S : Star w0 w ps) (n : Nat) {α : Type} {E : Enc α} {ty : TypeId} {g m c : Nat} {l : List α} (h : ps[n]? = some (oE (sliceE E ty) [.slice (some ⟨g, 0, none⟩) m c] l)) (hl : 0 < l.length) (hE : E.size = 1) :
    ∀ i, w.frozen? ⟨g, i, none⟩ = false := by
  obtain ⟨g', c', e, -, fz, -⟩ := S.at0 n h hl hE
  simp only [Value.slice.injEq, Option.some.injEq, Addr.mk.injEq, and_true] at e
  obtain ⟨rfl, -⟩ := e
  exact fz

theorem sub_flatten {α : Type} : ∀ (L : List (List α)) (i : Nat) (f : List α), L[i]? = some f → f.Sublist L.flatten
  | [], i, f, h => by simp at h
  | a :: L, 0, f, h => by
    obtain rfl : a = f := by simpa using h
    rw [List.flatten_cons]
    exact List.sublist_append_left _ _
  | a :: L, i + 1, f, h => by
    rw [List.flatten_cons]
    exact (sub_flatten L i f (by simpa using h)).trans (List.sublist_append_right _ _)

/-- One element of a slice of one's own; the rest is left. -/
theorem Star.elem {w0 w : World} {ps : List Ob} {α : Type} {E : Enc α} {ty : TypeId} {l : List α} {g n c : Nat} (S : Star w0 w (oE (sliceE E ty) [.slice (some ⟨g, 0, none⟩) n c] l :: ps)) (hE : E.size = 1) (i : Nat) (x : α) (hi : l[i]? = some x) {u : Value} (hu : w.cell? ⟨g, i, none⟩ = some u) :
    Star w0 w (oE E [u] x :: ps) := by
  refine S.upd ?_
  rintro fp ⟨v, xss, fps, he, h1, h2, rfl⟩ nd hlt
  simp only [List.cons.injEq, and_true] at he
  subst he
  obtain ⟨hx, h3⟩ := h2
  rcases h3 with ⟨h3, -⟩ | ⟨g', cap, cur, e3, hg, hh, hc, hm, hs, ht⟩
  · cases h3
  simp only [Value.slice.injEq, Option.some.injEq, Addr.mk.injEq, and_true] at e3
  obtain ⟨rfl, rfl, rfl⟩ := e3
  have hB : Blk w g cur.toList ty := by unfold Blk; rw [hh]
  obtain ⟨xs, f, e1, e2, e3, e4, e5⟩ := h1.rdAt (B := w.heap.size) (h1.lt) i x hi
  have hone := h1.ones hE xs (List.mem_of_getElem? e1)
  obtain ⟨u', rfl⟩ := List.length_eq_one_iff.1 hone
  have hu2 : w.cell? ⟨g, i, none⟩ = some u' := by
    have := e5 0 u' rfl
    rw [hE, Nat.mul_one, Nat.add_zero, ← ht, List.getElem?_take] at this
    split at this
    · exact hB.cell i (by simpa using this)
    · cases this
  obtain rfl : u = u' := Option.some.inj (hu.symm.trans hu2)
  have hs := sub_flatten fps i f e2
  exact ⟨f, e3, (List.nodup_append.1 nd).2.1.sublist hs, fun b hb => .inl (List.mem_append_right _ (hs.subset hb)), fun b hb => hlt b (List.mem_append_right _ (hs.subset hb)), But.refl _ _⟩

end Go.Proofs.YtnkhgfdlehhjmaaDoor

/-
  Plain definitions: what the laws' mark.. helpers leave in a value, and what the held.. helpers look for; a value with an element exchanged. No program is named here.
-/
namespace Go.Proofs.YtnkhgfdlehhjmaaDoor
open Go.RowKit

/-- A value that bears marks from a number on, and how many it bears. -/
structure Mk (α : Type) where
  held : α → Int → Prop
  cnt : α → Nat

def intsM : Mk (List Int) := ⟨fun l k => ∀ i, i < l.length → l[i]?.getD 0 = k + i, List.length⟩
def boolsM : Mk (List Bool) := ⟨fun l k => ∀ i, i < l.length → l[i]?.getD false = decide ((k + i) % 3 = 0), List.length⟩
def movesM : Mk (List Move) := ⟨fun l k => ∀ i, i < l.length → l[i]?.getD default = ⟨k + 2 * i, k + 2 * i + 1⟩, fun l => 2 * l.length⟩
def pmovesM : Mk (List PMove) := ⟨fun l k => ∀ i, i < l.length → l[i]?.getD default = ⟨k + 3 * i, k + 3 * i + 1, k + 3 * i + 1 + 1⟩, fun l => 3 * l.length⟩

def heldL {α : Type} (M : Mk α) : List α → Int → Prop
  | [], _ => True
  | a :: l, k => M.held a k ∧ heldL M l (k + M.cnt a)
def cntL {α : Type} (M : Mk α) (l : List α) : Nat := (l.map M.cnt).sum
def listM {α : Type} (M : Mk α) : Mk (List α) := ⟨heldL M, cntL M⟩

theorem heldL_append {α : Type} (M : Mk α) (l : List α) (a : α) (k : Int) : heldL M (l ++ [a]) k ↔ heldL M l k ∧ M.held a (k + cntL M l) := by
  induction l generalizing k with
  | nil => simp [heldL, cntL]
  | cons b l ih =>
    simp only [List.cons_append, heldL, ih, cntL, List.map_cons, List.sum_cons, and_assoc]
    rw [show k + (M.cnt b : Int) + ((l.map M.cnt).sum : Nat) = k + ((M.cnt b + (l.map M.cnt).sum : Nat) : Int) from by omega]

theorem cntL_append {α : Type} (M : Mk α) (l l' : List α) : cntL M (l ++ l') = cntL M l + cntL M l' := by simp [cntL]

theorem cntL_take_le {α : Type} (M : Mk α) (l : List α) (k : Nat) : cntL M (l.take k) ≤ cntL M l := by
  conv => rhs; rw [← List.take_append_drop k l]
  rw [cntL_append]; omega

theorem cntL_take {α : Type} (M : Mk α) (l : List α) (k : Nat) (x : α) (h : l[k]? = some x) : cntL M (l.take (k + 1)) = cntL M (l.take k) + M.cnt x := by
  obtain ⟨hk, rfl⟩ := List.getElem?_eq_some_iff.1 h
  rw [List.take_succ_eq_append_getElem hk, cntL_append]
  simp [cntL]

theorem heldL_take {α : Type} (M : Mk α) (l : List α) (k : Nat) (j : Int) (x : α) (h : l[k]? = some x) (hh : heldL M l j) : M.held x (j + cntL M (l.take k)) := by
  induction l generalizing k j with
  | nil => simp at h
  | cons a l ih =>
    cases k with
    | zero =>
      simp only [List.getElem?_cons_zero, Option.some.injEq] at h
      subst h
      simpa [cntL] using hh.1
    | succ k =>
      have := ih k (j + M.cnt a) (by simpa using h) hh.2
      rw [List.take_succ_cons]
      have e : cntL M (a :: l.take k) = M.cnt a + cntL M (l.take k) := by simp [cntL]
      rw [e]
      rwa [show j + ((M.cnt a + cntL M (l.take k) : Nat) : Int) = j + (M.cnt a : Int) + (cntL M (l.take k) : Nat) from by omega]

/-! ### A value of its own whose one element is exchanged -/

theorem OwAll.at {α : Type} {E : Enc α} {w : World} {l : List α} {xss : List (List Value)} {fps : List (List Nat)} (h : OwAll E w l xss fps) (hn : fps.flatten.Nodup) :
    ∀ j x, l[j]? = some x → ∃ xs f, xss[j]? = some xs ∧ E.ow w xs x f ∧ f.Nodup ∧ (∀ b, b ∈ f → b ∈ fps.flatten) ∧
      ∀ (w' : World) x', But f w w' → E.ow w' xs x' f → OwAll E w' (l.set j x') xss fps := by
  induction h with
  | nil => intro j x hx; simp at hx
  | @cons a l cs xss f fps h1 h2 ih =>
    rw [List.flatten_cons, List.nodup_append] at hn
    obtain ⟨n1, n2, n3⟩ := hn
    intro j x hx
    cases j with
    | zero =>
      simp only [List.getElem?_cons_zero, Option.some.injEq] at hx
      subst hx
      refine ⟨cs, f, rfl, h1, n1, fun b hb => by simp [hb], fun w' x' hb ho => ?_⟩
      rw [List.set_cons_zero]
      refine .cons ho (h2.frame fun b hm => ?_)
      exact hb.block b (h2.lt b hm) (fun hf => n3 b hf b hm rfl)
    | succ j =>
      obtain ⟨xs, g, e1, e2, e3, e4, e5⟩ := ih n2 j x (by simpa using hx)
      refine ⟨xs, g, by simpa using e1, e2, e3, fun b hb => by rw [List.flatten_cons]; exact List.mem_append_right _ (e4 b hb), fun w' x' hb ho => ?_⟩
      rw [List.set_cons_succ]
      refine .cons (E.ow_but h1 hb (fun b hm hg => n3 b hm b (e4 b hg) rfl)) (e5 w' x' hb ho)

theorem ow_elem {α : Type} {E : Enc α} {ty : TypeId} {w : World} {v : Value} {l : List α} {fp : List Nat} (h : (sliceE E ty).ow w [v] l fp) (hn : fp.Nodup) (j : Nat) (x : α) (hx : l[j]? = some x) :
    ∃ g cap xs f, v = .slice (some ⟨g, 0, none⟩) l.length cap ∧ g < w.heap.size ∧ E.ow w xs x f ∧ f.Nodup ∧ (∀ b, b ∈ f → b ∈ fp ∧ b ≠ g) ∧ (∀ i u, xs[i]? = some u → w.cell? ⟨g, j * E.size + i, none⟩ = some u) ∧
      ∀ (w' : World) x', But f w w' → E.ow w' xs x' f → (sliceE E ty).ow w' [v] (l.set j x') fp := by
  obtain ⟨v', xss, fps, hv, h1, h2, rfl⟩ := h
  obtain rfl : v = v' := by simpa using hv
  rw [List.nodup_append] at hn
  obtain ⟨n1, n2, n3⟩ := hn
  obtain ⟨xs, f, e1, e2, e3, e4, e5⟩ := h1.at n2 j x hx
  have hj := (List.getElem?_eq_some_iff.1 hx).1
  obtain ⟨hl2, hr⟩ := h2
  rcases hr with ⟨_, h0⟩ | ⟨g, cap, cur, rfl, hg, hh, hc, hm, hs, ht⟩
  · omega
  refine ⟨g, cap, xs, f, rfl, (Array.getElem?_eq_some_iff.1 hh).1, e2, e3, fun b hb => ⟨List.mem_append_right _ (e4 b hb), fun e => n3 g (by simp [Value.ownBlock]) b (e4 b hb) e.symm⟩, fun i u hu => ?_, fun w' x' hb ho => ?_⟩
  · obtain ⟨xs', f', q1, _, _, _, q5⟩ := h1.rdAt (B := w.heap.size) h1.lt j x hx
    rw [e1] at q1
    cases q1
    have hf := q5 i u hu
    rw [← ht, List.getElem?_take] at hf
    split at hf
    · unfold World.cell?
      rw [hh]
      simpa using hf
    · cases hf
  · refine ⟨_, xss, fps, rfl, e5 w' x' hb ho, ?_, rfl⟩
    rw [List.length_set]
    refine ⟨hl2, .inr ⟨g, cap, cur, rfl, hg, ?_, hc, hm, hs, ht⟩⟩
    rw [hb.block g (Array.getElem?_eq_some_iff.1 hh).1 (fun hf => n3 g (by simp [Value.ownBlock]) g (e4 g hf) rfl)]
    exact hh

/-- What a mark.. helper does. -/
def Marks {α : Type} (E : Enc α) (M : Mk α) (cs : List Value) (a : α) (fp : List Nat) (k : Int) (w : World) (e : Ending) (w' : World) : Prop :=
  ∃ a', e = .returned (.int .i64 (k + M.cnt a)) ∧ E.ow w' cs a' fp ∧ M.held a' k ∧ M.cnt a' = M.cnt a ∧ But fp w w'

theorem marks_nil {α : Type} {E : Enc α} {M : Mk α} {cs : List Value} {a : α} {fp : List Nat} {k : Int} {w : World} (ho : E.ow w cs a fp) (hm : M.held a k) (hc : M.cnt a = 0) : Marks E M cs a fp k w (.returned (.int .i64 k)) w :=
  ⟨a, by rw [hc]; simp, ho, hm, rfl, But.refl _ _⟩

theorem ow_flat_inv {α : Type} {E : Enc α} {ty : TypeId} {w : World} {v : Value} {l : List α} {fp : List Nat} (c : α → Value) (hE : E.size = 1) (inv : ∀ w xs x f, E.ow w xs x f → xs = [c x] ∧ f = []) (h : (sliceE E ty).ow w [v] l fp) :
    fp = v.ownBlock.toList ∧ w.ownsRow 0 ty 1 v l.length (l.map c) ∧ ∀ x, x ∈ l → E.ow w [c x] x [] := by
  obtain ⟨v', xss, fps, hv, h1, h2, rfl⟩ := h
  obtain rfl : v = v' := by simpa using hv
  have key : xss.flatten = l.map c ∧ fps.flatten = [] ∧ ∀ x, x ∈ l → E.ow w [c x] x [] := by
    clear h2 hv
    induction h1 with
    | nil => exact ⟨rfl, rfl, fun x hx => by cases hx⟩
    | @cons a l cs xss f fps h1 h2 ih =>
      obtain ⟨rfl, rfl⟩ := inv _ _ _ _ h1
      obtain ⟨i1, i2, i3⟩ := ih
      refine ⟨by simp [i1], by simp [i2], fun x hx => ?_⟩
      rcases List.mem_cons.1 hx with rfl | hx
      · exact h1
      · exact i3 x hx
  obtain ⟨k1, k2, k3⟩ := key
  rw [hE, k1] at h2
  exact ⟨by rw [k2, List.append_nil], h2, k3⟩

theorem ow_flats_inv {α : Type} {E : Enc α} {ty : TypeId} {w : World} {v : Value} {l : List α} {fp : List Nat} (c : α → List Value) (inv : ∀ w xs x f, E.ow w xs x f → xs = c x ∧ f = []) (h : (sliceE E ty).ow w [v] l fp) :
    fp = v.ownBlock.toList ∧ w.ownsRow 0 ty E.size v l.length (l.flatMap c) := by
  obtain ⟨v', xss, fps, hv, h1, h2, rfl⟩ := h
  obtain rfl : v = v' := by simpa using hv
  have key : xss.flatten = l.flatMap c ∧ fps.flatten = [] := by
    clear h2 hv
    induction h1 with
    | nil => exact ⟨rfl, rfl⟩
    | @cons a l cs xss f fps h1 h2 ih =>
      obtain ⟨rfl, rfl⟩ := inv _ _ _ _ h1
      obtain ⟨i1, i2⟩ := ih
      exact ⟨by simp [i1], by simp [i2]⟩
  obtain ⟨k1, k2⟩ := key
  rw [k1] at h2
  exact ⟨by rw [k2, List.append_nil], h2⟩

theorem ret_k {a b : Int} (h : a = b) : Value.int .i64 a = Value.int .i64 b := by rw [h]

theorem ow_len {α : Type} {E : Enc α} {ty : TypeId} {w : World} {v : Value} {l : List α} {fp : List Nat} (h : (sliceE E ty).ow w [v] l fp) : l.length ≤ 9223372036854775807 := len_le ((sliceE E ty).rd_ow h)

/-- A slice of slices (or structs of one cell) of which the first j elements have been marked. -/
def MState {α : Type} (E : Enc α) (ty : TypeId) (M : Mk α) (l : List α) (fp : List Nat) (v : Value) (k0 : Int) (w wr : World) (j : Nat) : Prop :=
  ∃ l', (sliceE E ty).ow wr [v] l' fp ∧ But fp w wr ∧ heldL M (l'.take j) k0 ∧ (∀ i, j ≤ i → l'[i]? = l[i]?) ∧ l'.map M.cnt = l.map M.cnt

section
variable {α : Type} {E : Enc α} {ty : TypeId} {M : Mk α} {l : List α} {fp : List Nat} {v : Value} {k0 : Int} {w wr : World} {j : Nat}

theorem MState.start (h : (sliceE E ty).ow w [v] l fp) : MState E ty M l fp v k0 w w 0 := ⟨l, h, But.refl _ _, trivial, fun _ _ => rfl, rfl⟩

theorem cntL_take_congr {l l' : List α} (h : l'.map M.cnt = l.map M.cnt) (j : Nat) : cntL M (l'.take j) = cntL M (l.take j) := by
  unfold cntL
  rw [List.map_take, List.map_take, h]

theorem MState.elem (hE : E.size = 1) (hn : fp.Nodup) (h : MState E ty M l fp v k0 w wr j) {x : α} (hx : l[j]? = some x) :
    ∃ g cap vk f, v = .slice (some ⟨g, 0, none⟩) l.length cap ∧ wr.cell? ⟨g, j, none⟩ = some vk ∧ E.ow wr [vk] x f ∧ f.Nodup ∧
      ∀ (w' : World) x', But f wr w' → E.ow w' [vk] x' f → M.held x' (k0 + cntL M (l.take j)) → M.cnt x' = M.cnt x → MState E ty M l fp v k0 w w' (j + 1) := by
  obtain ⟨l', h1, h2, h3, h4, h5⟩ := h
  have hlen : l'.length = l.length := by have := congrArg List.length h5; simpa using this
  obtain ⟨g, cap, xs, f, e1, e2, e3, e4, e5, e6, e7⟩ := ow_elem h1 hn j x (by rw [h4 j (Nat.le_refl _)]; exact hx)
  have hl := E.rd_len (E.rd_ow e3)
  rw [hE] at hl
  match xs, hl with
  | [vk], _ =>
    rw [hlen] at e1
    refine ⟨g, cap, vk, f, e1, by have := e6 0 vk rfl; rw [hE] at this; simpa using this, e3, e4, fun w' x' hb ho hm hc => ?_⟩
    have hjl : j < l'.length := by rw [hlen]; exact (List.getElem?_eq_some_iff.1 hx).1
    refine ⟨l'.set j x', e7 w' x' hb ho, ?_, ?_, fun i hi => ?_, ?_⟩
    · exact h2.trans ⟨hb.os, hb.tape, hb.output, hb.size, fun k hk hnk => hb.block k hk (fun hf => hnk (e5 k hf).1)⟩
    · rw [List.take_succ_eq_append_getElem (by rw [List.length_set]; exact hjl), heldL_append]
      rw [List.take_set_of_le (Nat.le_refl j)]
      refine ⟨h3, ?_⟩
      rw [List.getElem_set_self, cntL_take_congr h5]
      exact hm
    · rw [List.getElem?_set_ne (by omega)]
      exact h4 i (by omega)
    · rw [List.map_set, h5, hc]
      apply List.ext_getElem?
      intro i
      by_cases e : i = j
      · subst e
        rw [List.getElem?_set_self (by simp; omega), List.getElem?_map, hx]; rfl
      · rw [List.getElem?_set_ne (fun e' => e e'.symm)]

theorem MState.done (h : MState E ty M l fp v k0 w wr l.length) : Marks (sliceE E ty) (listM M) [v] l fp k0 w (.returned (.int .i64 (k0 + cntL M l))) wr := by
  obtain ⟨l', h1, h2, h3, h4, h5⟩ := h
  have hlen : l'.length = l.length := by have := congrArg List.length h5; simpa using this
  refine ⟨l', rfl, h1, ?_, ?_, h2⟩
  · rw [← hlen, List.take_length] at h3; exact h3
  · show cntL M l' = cntL M l
    have := cntL_take_congr h5 l.length
    rwa [← hlen, List.take_length, hlen, List.take_length] at this
end

end Go.Proofs.YtnkhgfdlehhjmaaDoor

/-
  Two small laws for the marks of structs.
-/
namespace Go.Proofs.YtnkhgfdlehhjmaaDoor
open Go.RowKit

theorem But.mono {fp fq : List Nat} {w w' : World} (h : But fp w w') (hs : ∀ b, b ∈ fp → b ∈ fq) : But fq w w' :=
  ⟨h.os, h.tape, h.output, h.size, fun k hk hn => h.block k hk (fun hp => hn (hs k hp))⟩

theorem ret_k_ret {a b : Int} (h : a = b) : Ending.returned (Value.int .i64 a) = Ending.returned (Value.int .i64 b) := by rw [h]

end Go.Proofs.YtnkhgfdlehhjmaaDoor

/-
  Plain lemmas: an element of a row of a slice of slices of one's own is written anew. No program is named here.
-/
namespace Go.Proofs.YtnkhgfdlehhjmaaDoor
open Go.RowKit

theorem OwAll.flat_fp {α : Type} {E : Enc α} (hfl : ∀ w cs x f, E.ow w cs x f → f = []) {w : World} {l : List α} {xss : List (List Value)} {fps : List (List Nat)} (h : OwAll E w l xss fps) : fps.flatten = [] := by
  induction h with
  | nil => rfl
  | cons h1 h2 ih => rw [List.flatten_cons, ih, hfl _ _ _ _ h1]; rfl

theorem OwAll.sizes {α : Type} {E : Enc α} {w : World} {l : List α} {xss : List (List Value)} {fps : List (List Nat)} (h : OwAll E w l xss fps) : ∀ x, x ∈ xss → x.length = E.size := by
  induction h with
  | nil => intro x hx; cases hx
  | cons h1 h2 ih =>
    intro x hx
    rcases List.mem_cons.1 hx with rfl | hx
    · exact E.rd_len (E.rd_ow h1)
    · exact ih x hx

theorem flatten_set2 {u v : Value} : ∀ (xss : List (List Value)) (i : Nat), (∀ x, x ∈ xss → x.length = 2) → (xss.set i [u, v]).flatten = (xss.flatten.set (i * 2) u).set (i * 2 + 1) v
  | [], i, _ => by simp
  | x :: xss, i, h => by
    obtain ⟨a, b, rfl⟩ : ∃ a b, x = [a, b] := by
      have hx := h x (by simp)
      match x, hx with
      | [a, b], _ => exact ⟨a, b, rfl⟩
    cases i with
    | zero => simp
    | succ i =>
      have := flatten_set2 (u := u) (v := v) xss i (fun y hy => h y (by simp [hy]))
      rw [List.set_cons_succ, List.flatten_cons, this, show (i + 1) * 2 = i * 2 + 2 from by omega]
      simp

/-- A row of one-cell elements that own nothing. -/
theorem ow_set1 {α : Type} {E : Enc α} {ty : TypeId} {w : World} {l : List α} {g n c : Nat} {f : List Nat} (hE : E.size = 1) (hfl : ∀ w cs x f, E.ow w cs x f → f = []) (o : (sliceE E ty).ow w [.slice (some ⟨g, 0, none⟩) n c] l f) (i : Nat) {u : Value} {y : α}
    (hy : ∀ w, E.ow w [u] y []) : (sliceE E ty).ow (w.setCell ⟨g, i, none⟩ u) [.slice (some ⟨g, 0, none⟩) n c] (l.set i y) f ∧ f = [g] := by
  obtain ⟨v, xss, fps, he, h1, h2, rfl⟩ := o
  simp only [List.cons.injEq, and_true] at he
  subst he
  obtain ⟨hx, h3⟩ := h2
  rcases h3 with ⟨h3, -⟩ | ⟨g', cap, cur, e3, hg, hh, hc, hm, hs, ht⟩
  · cases h3
  simp only [Value.slice.injEq, Option.some.injEq, Addr.mk.injEq, and_true] at e3
  obtain ⟨rfl, rfl, rfl⟩ := e3
  have hf0 := h1.flat_fp hfl
  have hB : Blk w g cur.toList ty := by unfold Blk; rw [hh]
  have hB' := hB.set i u
  have hone := h1.ones hE
  have o1 := (h1.frame (w' := w.setCell ⟨g, i, none⟩ u) (fun b hb => by rw [hf0] at hb; cases hb)).set (hy _) i
  refine ⟨⟨_, xss.set i [u], fps.set i [], rfl, o1, ⟨?_, .inr ⟨g, c, (cur.toList.set i u).toArray, by rw [List.length_set], Nat.zero_le _, hB', by rw [List.length_set]; exact hc, hm, by simpa using hs, ?_⟩⟩, ?_⟩, ?_⟩
  · rw [flatten_set1 _ _ hone, List.length_set, List.length_set]; exact hx
  · rw [flatten_set1 _ _ hone, List.length_set, ← ht, List.take_set]
  · rw [o1.flat_fp hfl, hf0]
  · rw [hf0]; rfl

/-- A row of two-cell elements that own nothing. -/
theorem ow_set2 {α : Type} {E : Enc α} {ty : TypeId} {w : World} {l : List α} {g n c : Nat} {f : List Nat} (hE : E.size = 2) (hfl : ∀ w cs x f, E.ow w cs x f → f = []) (o : (sliceE E ty).ow w [.slice (some ⟨g, 0, none⟩) n c] l f) (i : Nat) {u v : Value} {y : α}
    (hy : ∀ w, E.ow w [u, v] y []) : (sliceE E ty).ow ((w.setCell ⟨g, i * 2, none⟩ u).setCell ⟨g, i * 2 + 1, none⟩ v) [.slice (some ⟨g, 0, none⟩) n c] (l.set i y) f ∧ f = [g] := by
  obtain ⟨v', xss, fps, he, h1, h2, rfl⟩ := o
  simp only [List.cons.injEq, and_true] at he
  subst he
  obtain ⟨hx, h3⟩ := h2
  rcases h3 with ⟨h3, -⟩ | ⟨g', cap, cur, e3, hg, hh, hc, hm, hs, ht⟩
  · cases h3
  simp only [Value.slice.injEq, Option.some.injEq, Addr.mk.injEq, and_true] at e3
  obtain ⟨rfl, rfl, rfl⟩ := e3
  have hf0 := h1.flat_fp hfl
  have hB : Blk w g cur.toList ty := by unfold Blk; rw [hh]
  have hB' := (hB.set (i * 2) u).set (i * 2 + 1) v
  have hone : ∀ x, x ∈ xss → x.length = 2 := fun x hx => by rw [h1.sizes x hx, hE]
  have o1 := (h1.frame (w' := (w.setCell ⟨g, i * 2, none⟩ u).setCell ⟨g, i * 2 + 1, none⟩ v) (fun b hb => by rw [hf0] at hb; cases hb)).set (hy _) i
  refine ⟨⟨_, xss.set i [u, v], fps.set i [], rfl, o1, ⟨?_, .inr ⟨g, c, ((cur.toList.set (i * 2) u).set (i * 2 + 1) v).toArray, by rw [List.length_set], Nat.zero_le _, hB', by rw [List.length_set]; exact hc, hm, by simpa using hs, ?_⟩⟩, ?_⟩, ?_⟩
  · rw [flatten_set2 _ _ hone, List.length_set, List.length_set, List.length_set]; exact hx
  · rw [flatten_set2 _ _ hone, List.length_set, ← ht, ← List.take_set, ← List.take_set]
  · rw [o1.flat_fp hfl, hf0]
  · rw [hf0]; rfl

theorem flatten_same : ∀ (L : List (List Nat)) (i : Nat) (f : List Nat), L[i]? = some f → L.set i f = L
  | [], i, f, h => by simp at h
  | a :: L, 0, f, h => by
    obtain rfl : a = f := by simpa using h
    rfl
  | a :: L, i + 1, f, h => by rw [List.set_cons_succ, flatten_same L i f (by simpa using h)]
theorem xs_same : ∀ (L : List (List Value)) (i : Nat) (f : List Value), L[i]? = some f → L.set i f = L
  | [], i, f, h => by simp at h
  | a :: L, 0, f, h => by
    obtain rfl : a = f := by simpa using h
    rfl
  | a :: L, i + 1, f, h => by rw [List.set_cons_succ, xs_same L i f (by simpa using h)]

theorem OwAll.but {α : Type} {E : Enc α} {w w' : World} {f : List Nat} (hbut : But f w w') : ∀ {l : List α} {xss : List (List Value)} {fps : List (List Nat)}, OwAll E w l xss fps → ∀ (i : Nat) {cs : List Value} {y : α}, fps.flatten.Nodup → fps[i]? = some f → xss[i]? = some cs → E.ow w' cs y f → OwAll E w' (l.set i y) xss fps
  | _, _, _, .nil, i, _, _, _, h, _, _ => by simp at h
  | _, _, _, @OwAll.cons _ _ _ a l cs0 xss f0 fps h1 h2, i, cs, y, nd, hf, hx, hy => by
    have nd2 := nd
    rw [List.flatten_cons, List.nodup_append] at nd2
    cases i with
    | zero =>
      obtain rfl : f0 = f := by simpa using hf
      obtain rfl : cs0 = cs := by simpa using hx
      exact .cons hy (h2.frame fun b hb => hbut.block b (h2.lt b hb) (fun hb2 => nd2.2.2 b hb2 b hb rfl))
    | succ i =>
      have hf' : fps[i]? = some f := by simpa using hf
      have hsub := (sub_flatten fps i f hf').subset
      refine .cons (E.ow_frame (fun b hb => hbut.block b (E.ow_lt h1 b hb) (fun hb2 => nd2.2.2 b hb b (hsub hb2) rfl)) h1) (h2.but hbut i nd2.2.1 hf' (by simpa using hx) hy)

/-- A row of a slice of slices is changed within. -/
theorem Star.inner {w0 w w' : World} {ps : List Ob} {α : Type} {E : Enc α} {ty : TypeId} {l : List α} {g n c : Nat} (S : Star w0 w (oE (sliceE E ty) [.slice (some ⟨g, 0, none⟩) n c] l :: ps)) (hE : E.size = 1) (i : Nat) (x : α) (hi : l[i]? = some x) {u : Value} (hu : w.cell? ⟨g, i, none⟩ = some u) {y : α}
    (h : ∀ f, E.ow w [u] x f → E.ow w' [u] y f ∧ But f w w') : Star w0 w' (oE (sliceE E ty) [.slice (some ⟨g, 0, none⟩) n c] (l.set i y) :: ps) := by
  refine S.upd ?_
  rintro fp ⟨v, xss, fps, he, h1, h2, rfl⟩ nd hlt
  simp only [List.cons.injEq, and_true] at he
  subst he
  obtain ⟨hx, h3⟩ := h2
  rcases h3 with ⟨h3, -⟩ | ⟨g', cap, cur, e3, hg, hh, hc, hm, hs, ht⟩
  · cases h3
  simp only [Value.slice.injEq, Option.some.injEq, Addr.mk.injEq, and_true] at e3
  obtain ⟨rfl, rfl, rfl⟩ := e3
  have ob : (Value.slice (some ⟨g, 0, none⟩) l.length c).ownBlock.toList = [g] := rfl
  have ob2 : (Value.slice (some ⟨g, 0, none⟩) (l.set i y).length c).ownBlock.toList = [g] := rfl
  rw [ob] at nd hlt ⊢
  have hB : Blk w g cur.toList ty := by unfold Blk; rw [hh]
  obtain ⟨xs, f, e1, e2, e3, e4, e5⟩ := h1.rdAt (B := w.heap.size) (h1.lt) i x hi
  have hone := h1.ones hE xs (List.mem_of_getElem? e1)
  obtain ⟨u', rfl⟩ := List.length_eq_one_iff.1 hone
  have hu2 : w.cell? ⟨g, i, none⟩ = some u' := by
    have := e5 0 u' rfl
    rw [hE, Nat.mul_one, Nat.add_zero, ← ht, List.getElem?_take] at this
    split at this
    · exact hB.cell i (by simpa using this)
    · cases this
  obtain rfl : u = u' := Option.some.inj (hu.symm.trans hu2)
  obtain ⟨hy, hbut⟩ := h f e3
  have hsub := (sub_flatten fps i f e2).subset
  have hgn : g ∉ fps.flatten := by
    rw [List.singleton_append, List.nodup_cons] at nd
    exact nd.1
  have ndf : fps.flatten.Nodup := (List.nodup_append.1 nd).2.1
  have hgl : g < w.heap.size := (Array.getElem?_eq_some_iff.1 hh).1
  have hg' : w'.heap[g]? = w.heap[g]? := hbut.block g hgl (fun hb => hgn (hsub hb))
  refine ⟨[g] ++ fps.flatten, ⟨_, xss, fps, rfl, h1.but hbut i ndf e2 e1 hy, ⟨by rw [List.length_set]; exact hx, .inr ⟨g, c, cur, by rw [List.length_set], hg, by rw [hg']; exact hh, by rw [List.length_set]; exact hc, hm, hs, by rw [List.length_set]; exact ht⟩⟩, rfl⟩, nd, fun b hb => .inl hb, fun b hb => Nat.lt_of_lt_of_le (hlt b hb) hbut.size, hbut.mono fun b hb => List.mem_append_right _ (hsub hb)⟩

theorem flat_str : ∀ w cs x f, strE.ow w cs x f → f = [] := fun _ _ _ _ h => h.2
theorem flat_move : ∀ w cs x f, moveE.ow w cs x f → f = [] := by
  rintro w cs x f ⟨c1, c2, f1, f2, -, rfl, h1, h2⟩
  rw [h1.2, h2.2]
  rfl

/-- A text in a row. -/
theorem Star.setStr {w0 w : World} {ps : List Ob} {ty te : TypeId} {l : List (List ByteArray)} {g n c : Nat} (S : Star w0 w (oE (sliceE (sliceE strE te) ty) [.slice (some ⟨g, 0, none⟩) n c] l :: ps)) (i : Nat) (x : List ByteArray) (hi : l[i]? = some x) {rb rn rc : Nat} (hu : w.cell? ⟨g, i, none⟩ = some (.slice (some ⟨rb, 0, none⟩) rn rc)) (j : Nat) (y : ByteArray) (hy : y.size ≤ maxLen) :
    Star w0 (w.setCell ⟨rb, j, none⟩ (.string y)) (oE (sliceE (sliceE strE te) ty) [.slice (some ⟨g, 0, none⟩) n c] (l.set i (x.set j y)) :: ps) :=
  S.inner rfl i x hi hu fun f o => by
    obtain ⟨o2, rfl⟩ := ow_set1 (E := strE) rfl flat_str o j (u := .string y) (y := y) (fun _ => ⟨⟨rfl, hy⟩, rfl⟩)
    exact ⟨o2, (But.refl _ _).setCell (by simp) _⟩

/-- A move in a row. -/
theorem Star.setMove {w0 w : World} {ps : List Ob} {ty te : TypeId} {l : List (List Move)} {g n c : Nat} (S : Star w0 w (oE (sliceE (sliceE moveE te) ty) [.slice (some ⟨g, 0, none⟩) n c] l :: ps)) (i : Nat) (x : List Move) (hi : l[i]? = some x) {rb rn rc : Nat} (hu : w.cell? ⟨g, i, none⟩ = some (.slice (some ⟨rb, 0, none⟩) rn rc)) (j : Nat) (a b : Int) (ha : -9223372036854775808 ≤ a ∧ a ≤ 9223372036854775807) (hb : -9223372036854775808 ≤ b ∧ b ≤ 9223372036854775807) :
    Star w0 ((w.setCell ⟨rb, j * 2, none⟩ (.int .i64 a)).setCell ⟨rb, j * 2 + 1, none⟩ (.int .i64 b)) (oE (sliceE (sliceE moveE te) ty) [.slice (some ⟨g, 0, none⟩) n c] (l.set i (x.set j ⟨a, b⟩)) :: ps) :=
  S.inner rfl i x hi hu fun f o => by
    obtain ⟨o2, rfl⟩ := ow_set2 (E := moveE) rfl flat_move o j (u := .int .i64 a) (v := .int .i64 b) (y := ⟨a, b⟩) (fun _ => ⟨[_], [_], [], [], rfl, rfl, ⟨⟨rfl, ha⟩, rfl⟩, ⟨⟨rfl, hb⟩, rfl⟩⟩)
    exact ⟨o2, ((But.refl _ _).setCell (by simp) _).setCell (by simp) _⟩

end Go.Proofs.YtnkhgfdlehhjmaaDoor

/-
  Plain lemmas: append of a whole slice of one's own, at moves and texts; rows of a slice of slices (written by a program of this claim's own, gen_join.py).
-/
namespace Go.Proofs.YtnkhgfdlehhjmaaDoor
open Go.RowKit

theorem one_moves_ow : ∀ (w : World) (x : List Move) (cs : List Value) (f : List Nat), movesE.ow w cs x f → ∀ u, u ∈ cs → u.oneCell' = true := by
  intro w x cs f h u hu
  obtain ⟨v, rfl⟩ := one_of (Enc.rd_len _ (Enc.rd_ow _ h))
  obtain ⟨sa, sn, sc, rfl⟩ := ow_slice h
  have : u = .slice sa sn sc := by simpa using hu
  subst this; rfl

/-- append of a whole slice of one's own. -/
theorem stJ_MoveSS {w0 w : World} {ps : List Ob} {ops : Array Oper} {rest : List Oper} {o : Oper} {a : Act} {Q : Exit → Act → World → Prop} {s x : Operand} {v v2 : Value} {l l2 : List (List Move)}
    (S : Star w0 w (oE movessE [v] l :: oE movessE [v2] l2 :: ps)) (hgd : o.guard = none)
    (ho : o.op = .call { callee := .builtin .append, args := #[s, x], argTypes := #[30, 30] }) (hv : a.eval s = v) (hx : a.eval x = v2) (hlen : l.length + l2.length ≤ 1000000000000)
    (h : ∀ sa sn sc w', Star w0 w' (oE movessE [.slice sa sn sc] (l ++ l2) :: ps) → wpList Tryd.prog ops Q rest (a.put o.dst (.slice sa sn sc)) w') : wpList Tryd.prog ops Q (o :: rest) a w := by
  obtain ⟨B, fp, hh, d⟩ := S
  obtain ⟨p1, p2, p3⟩ := hh 0 _ rfl
  obtain ⟨q1, q2, q3⟩ := hh 1 _ rfl
  obtain ⟨css, fys, e1, e2, e3⟩ := srcS_own one_moves_ow q1
  have hsub : ∀ b, b ∈ fys.flatten → b ∈ fp 1 := fun b hb => by rw [e3]; exact List.mem_append_right _ hb
  have hnd : (fp 0 ++ fys.flatten).Nodup := by
    have d01 := d 0 1 (by omega) (by simp) (by simp)
    rw [e3] at q2
    exact Dj.nodup (fun b hb hb2 => d01 b hb (hsub b hb2)) p2 (List.nodup_append.1 q2).2.1
  refine appS_MoveSS hgd s x ho hv p1 e1 (by rw [hx]; exact e2) hnd hlen (fun v' w' fp' k1 k2 k3 k4 => ?_)
  obtain ⟨sa, sn, sc, rfl⟩ := ow_slice k1
  refine h sa sn sc w' ⟨B.trans (k4.below (fun b hb => (p3 b hb).1) B.size), fun i => match i with | 0 => fp' | i + 1 => fp (i + 2), fun i Q hQ => ?_, fun i j hij hi hj => ?_⟩
  · cases i with
    | zero =>
      obtain rfl : _ = Q := by simpa using hQ
      refine ⟨k1, k2, fun b hm => ⟨?_, Enc.ow_lt _ k1 b hm⟩⟩
      rcases k3 b hm with h1 | h1 | h1
      · exact (p3 b h1).1
      · exact (q3 b (hsub b h1)).1
      · have := B.size; omega
    | succ i =>
      have hQ' : ps[i]? = some Q := by simpa using hQ
      obtain ⟨h1, h2, h3⟩ := hh (i + 2) Q hQ'
      have hil := (List.getElem?_eq_some_iff.1 hQ').1
      refine ⟨Q.frame (fun b hm => k4.block b (h3 b hm).2 (fun hf => ?_)) h1, h2, fun b hm => ⟨(h3 b hm).1, Nat.lt_of_lt_of_le (h3 b hm).2 k4.size⟩⟩
      exact d 0 (i + 2) (by omega) (by simp) (by simpa using hil) b hf hm
  · have hd0 : ∀ i, i < ps.length → Dj fp' (fp (i + 2)) := by
      intro i hi b hb1 hb2
      rcases k3 b hb1 with h1 | h1 | h1
      · exact d 0 (i + 2) (by omega) (by simp) (by simpa using hi) b h1 hb2
      · exact d 1 (i + 2) (by omega) (by simp) (by simpa using hi) b (hsub b h1) hb2
      · have := ((hh (i + 2) _ (by rw [List.getElem?_cons_succ, List.getElem?_cons_succ]; exact List.getElem?_eq_getElem hi)).2.2 b hb2).2
        omega
    cases i with
    | zero =>
      cases j with
      | zero => exact absurd rfl hij
      | succ j => exact hd0 j (by simpa using hj)
    | succ i =>
      cases j with
      | zero => exact (hd0 i (by simpa using hi)).symm
      | succ j => exact d (i + 2) (j + 2) (by omega) (by simpa using hi) (by simpa using hj)

theorem one_strs_ow : ∀ (w : World) (x : List ByteArray) (cs : List Value) (f : List Nat), strsE.ow w cs x f → ∀ u, u ∈ cs → u.oneCell' = true := by
  intro w x cs f h u hu
  obtain ⟨v, rfl⟩ := one_of (Enc.rd_len _ (Enc.rd_ow _ h))
  obtain ⟨sa, sn, sc, rfl⟩ := ow_slice h
  have : u = .slice sa sn sc := by simpa using hu
  subst this; rfl

/-- append of a whole slice of one's own. -/
theorem stJ_StringSS {w0 w : World} {ps : List Ob} {ops : Array Oper} {rest : List Oper} {o : Oper} {a : Act} {Q : Exit → Act → World → Prop} {s x : Operand} {v v2 : Value} {l l2 : List (List ByteArray)}
    (S : Star w0 w (oE strssE [v] l :: oE strssE [v2] l2 :: ps)) (hgd : o.guard = none)
    (ho : o.op = .call { callee := .builtin .append, args := #[s, x], argTypes := #[25, 25] }) (hv : a.eval s = v) (hx : a.eval x = v2) (hlen : l.length + l2.length ≤ 1000000000000)
    (h : ∀ sa sn sc w', Star w0 w' (oE strssE [.slice sa sn sc] (l ++ l2) :: ps) → wpList Tryd.prog ops Q rest (a.put o.dst (.slice sa sn sc)) w') : wpList Tryd.prog ops Q (o :: rest) a w := by
  obtain ⟨B, fp, hh, d⟩ := S
  obtain ⟨p1, p2, p3⟩ := hh 0 _ rfl
  obtain ⟨q1, q2, q3⟩ := hh 1 _ rfl
  obtain ⟨css, fys, e1, e2, e3⟩ := srcS_own one_strs_ow q1
  have hsub : ∀ b, b ∈ fys.flatten → b ∈ fp 1 := fun b hb => by rw [e3]; exact List.mem_append_right _ hb
  have hnd : (fp 0 ++ fys.flatten).Nodup := by
    have d01 := d 0 1 (by omega) (by simp) (by simp)
    rw [e3] at q2
    exact Dj.nodup (fun b hb hb2 => d01 b hb (hsub b hb2)) p2 (List.nodup_append.1 q2).2.1
  refine appS_StringSS hgd s x ho hv p1 e1 (by rw [hx]; exact e2) hnd hlen (fun v' w' fp' k1 k2 k3 k4 => ?_)
  obtain ⟨sa, sn, sc, rfl⟩ := ow_slice k1
  refine h sa sn sc w' ⟨B.trans (k4.below (fun b hb => (p3 b hb).1) B.size), fun i => match i with | 0 => fp' | i + 1 => fp (i + 2), fun i Q hQ => ?_, fun i j hij hi hj => ?_⟩
  · cases i with
    | zero =>
      obtain rfl : _ = Q := by simpa using hQ
      refine ⟨k1, k2, fun b hm => ⟨?_, Enc.ow_lt _ k1 b hm⟩⟩
      rcases k3 b hm with h1 | h1 | h1
      · exact (p3 b h1).1
      · exact (q3 b (hsub b h1)).1
      · have := B.size; omega
    | succ i =>
      have hQ' : ps[i]? = some Q := by simpa using hQ
      obtain ⟨h1, h2, h3⟩ := hh (i + 2) Q hQ'
      have hil := (List.getElem?_eq_some_iff.1 hQ').1
      refine ⟨Q.frame (fun b hm => k4.block b (h3 b hm).2 (fun hf => ?_)) h1, h2, fun b hm => ⟨(h3 b hm).1, Nat.lt_of_lt_of_le (h3 b hm).2 k4.size⟩⟩
      exact d 0 (i + 2) (by omega) (by simp) (by simpa using hil) b hf hm
  · have hd0 : ∀ i, i < ps.length → Dj fp' (fp (i + 2)) := by
      intro i hi b hb1 hb2
      rcases k3 b hb1 with h1 | h1 | h1
      · exact d 0 (i + 2) (by omega) (by simp) (by simpa using hi) b h1 hb2
      · exact d 1 (i + 2) (by omega) (by simp) (by simpa using hi) b (hsub b h1) hb2
      · have := ((hh (i + 2) _ (by rw [List.getElem?_cons_succ, List.getElem?_cons_succ]; exact List.getElem?_eq_getElem hi)).2.2 b hb2).2
        omega
    cases i with
    | zero =>
      cases j with
      | zero => exact absurd rfl hij
      | succ j => exact hd0 j (by simpa using hj)
    | succ i =>
      cases j with
      | zero => exact (hd0 i (by simpa using hi)).symm
      | succ j => exact d (i + 2) (j + 2) (by omega) (by simpa using hi) (by simpa using hj)

theorem mix_get {α β : Type} (f g : α → β) (l : List α) (j : Nat) (hj : j < l.length) : ((l.take j).map f ++ (l.drop j).map g)[j]? = some (g l[j]) := by
  have h1 : ((l.take j).map f).length = j := by rw [List.length_map, List.length_take]; omega
  rw [List.getElem?_append_right (by omega), h1, Nat.sub_self, List.drop_eq_getElem_cons hj]
  rfl
theorem mix_set {α β : Type} (f g : α → β) (l : List α) (j : Nat) (hj : j < l.length) : ((l.take j).map f ++ (l.drop j).map g).set j (f l[j]) = (l.take (j + 1)).map f ++ (l.drop (j + 1)).map g := by
  have h1 : ((l.take j).map f).length = j := by rw [List.length_map, List.length_take]; omega
  rw [List.set_append_right _ _ (by omega), h1, Nat.sub_self, List.drop_eq_getElem_cons hj, List.take_succ_eq_append_getElem hj, List.map_append, List.map_cons, List.set_cons_zero, List.append_assoc]
  rfl
theorem mix_same {α β : Type} (f g : α → β) (l : List α) (j : Nat) (hj : j < l.length) (h : f l[j] = g l[j]) : (l.take (j + 1)).map f ++ (l.drop (j + 1)).map g = (l.take j).map f ++ (l.drop j).map g := by
  rw [List.drop_eq_getElem_cons hj, List.take_succ_eq_append_getElem hj, List.map_append, List.map_cons, List.append_assoc, h]
  rfl
theorem mix_len {α β : Type} (f g : α → β) (l : List α) (j : Nat) : ((l.take j).map f ++ (l.drop j).map g).length = l.length := by
  rw [List.length_append, List.length_map, List.length_map, List.length_take, List.length_drop]
  omega

theorem ow_slice0 {α : Type} {E : Enc α} {ty : TypeId} {w : World} {v : Value} {l : List α} {f : List Nat} (o : (sliceE E ty).ow w [v] l f) (hl : 0 < l.length) :
    ∃ g c, v = .slice (some ⟨g, 0, none⟩) l.length c ∧ l.length ≤ c ∧ c ≤ maxLen ∧ (∀ i, w.frozen? ⟨g, i, none⟩ = false) ∧ ∀ i x, l[i]? = some x → ∃ xs, E.rd w w.heap.size xs x ∧ (∃ f', E.ow w xs x f') ∧ ∀ j u, xs[j]? = some u → w.cell? ⟨g, i * E.size + j, none⟩ = some u := by
  obtain ⟨v', xss, fps, he, h1, h2, -⟩ := o
  simp only [List.cons.injEq, and_true] at he
  subst he
  obtain ⟨hx, h3⟩ := h2
  rcases h3 with ⟨-, h3⟩ | ⟨g, cap, cur, rfl, hg, hh, hc, hm, hs, ht⟩
  · omega
  have hB : Blk w g cur.toList ty := by unfold Blk; rw [hh]
  refine ⟨g, cap, rfl, hc, hm, hB.free, fun i x hi => ?_⟩
  obtain ⟨xs, f, e1, e2, e3, e4, e5⟩ := h1.rdAt (B := w.heap.size) (h1.lt) i x hi
  refine ⟨xs, e4, ⟨f, e3⟩, fun j u hu => ?_⟩
  have := e5 j u hu
  rw [← ht, List.getElem?_take] at this
  split at this
  · exact hB.cell _ (by simpa using this)
  · cases this

/-- A slice of slices of one's own, and one of its rows. -/
theorem Star.rows {w0 w : World} {ps : List Ob} (S : Star w0 w ps) (n : Nat) {α : Type} {E : Enc α} {ty te : TypeId} {v : Value} {l : List (List α)} (h : ps[n]? = some (oE (sliceE (sliceE E te) ty) [v] l)) (hl : 0 < l.length) :
    ∃ g c, v = .slice (some ⟨g, 0, none⟩) l.length c ∧ l.length ≤ c ∧ c ≤ maxLen ∧ (∀ i, w.frozen? ⟨g, i, none⟩ = false) ∧ ∀ i x, l[i]? = some x → 0 < x.length →
      ∃ rb rc, w.cell? ⟨g, i, none⟩ = some (.slice (some ⟨rb, 0, none⟩) x.length rc) ∧ x.length ≤ rc ∧ rc ≤ maxLen ∧ (∀ k, w.frozen? ⟨rb, k, none⟩ = false) ∧ ∀ k y, x[k]? = some y → ∃ ys, E.rd w w.heap.size ys y ∧ ∀ j u, ys[j]? = some u → w.cell? ⟨rb, k * E.size + j, none⟩ = some u := by
  obtain ⟨f, o⟩ := S.own n h
  obtain ⟨g, c, rfl, h1, h2, h3, h4⟩ := ow_slice0 o hl
  refine ⟨g, c, rfl, h1, h2, h3, fun i x hi hx => ?_⟩
  obtain ⟨xs, r1, ⟨f', o'⟩, r2⟩ := h4 i x hi
  obtain ⟨u, rfl⟩ := one_of (Enc.rd_len _ r1)
  obtain ⟨rb, rc, rfl, k1, k2, k3, k4⟩ := ow_slice0 o' hx
  refine ⟨rb, rc, ?_, k1, k2, k3, fun k y hy => ?_⟩
  · have := r2 0 _ rfl
    rwa [show (sliceE E te).size = 1 from rfl, Nat.mul_one, Nat.add_zero] at this
  · obtain ⟨ys, e1, -, e2⟩ := k4 k y hy
    exact ⟨ys, e1, e2⟩

theorem rd_move2 {w : World} {B : Nat} {cs : List Value} {m : Move} (h : moveE.rd w B cs m) : cs = [.int .i64 m.to, .int .i64 m.dir] ∧ (-9223372036854775808 ≤ m.to ∧ m.to ≤ 9223372036854775807) ∧ (-9223372036854775808 ≤ m.dir ∧ m.dir ≤ 9223372036854775807) := by
  obtain ⟨c1, c2, rfl, h1, h2⟩ := h
  obtain ⟨e1, b1⟩ := h1
  obtain ⟨e2, b2⟩ := h2
  exact ⟨by rw [e1, e2]; rfl, b1, b2⟩

theorem rd_s1p {α : Type} [Inhabited α] {E : Enc α} {ty : TypeId} {w : World} {B : Nat} {v : Value} {l : List α} (hs : E.size = 1) (h : (sliceE E ty).rd w B [v] l) (hl : 0 < l.length) :
    ∃ b o cap, v = .slice (some ⟨b, o, none⟩) l.length cap ∧ l.length ≤ cap ∧ cap ≤ 9223372036854775807 ∧
      ∀ k, k < l.length → ∃ vk, w.cell? ⟨b, o + k, none⟩ = some vk ∧ E.rd w B [vk] (l[k]?.getD default) := by
  obtain ⟨a, cap, rfl, h1, h2, -, h4⟩ := rd_slice1 hs h
  obtain ⟨b, o, v0, rfl, -, -, -⟩ := h4 0 hl
  refine ⟨b, o, cap, rfl, h1, h2, fun k hk => ?_⟩
  obtain ⟨b', o', vk, e, -, h6, h7⟩ := h4 k hk
  cases e
  exact ⟨vk, h6, h7⟩

end Go.Proofs.YtnkhgfdlehhjmaaDoor

/-
  append on values of one's own as a step of a region that draws its order (written by a program of this claim's own, gen_step.py, out of the texts of the walk's laws).
-/
namespace Go.Proofs.YtnkhgfdlehhjmaaDoor
open Go.RowKit

theorem step_append_enc {α : Type} {E : Enc α} {ty : TypeId} {P : Program} {w : World} {ops : Array Oper} {o : Oper} {a : Act} {K : Act → World → Prop} {Q : Exit → Act → World → Prop} {X : Prop} (hgd : o.guard = none) (s x : Operand) (t : TypeId)
    (ho : o.op = .call { callee := .builtin .append, args := #[s, x], argTypes := #[t, t] })
    (i : TypeInfo) (z : Value) (bytes : Nat) (ht : P.underlying t = some (.slice ty)) (hi : P.info? ty = some i) (hz : i.zero = some z)
    (hsize : i.size = E.size) (hby : i.bytes = bytes) (hzs : z.cells.size = E.size) (hsz : 0 < E.size) {v : Value} {l : List α} {fp : List Nat} (hv : a.eval s = v) (hown : (sliceE E ty).ow w [v] l fp)
    {ys : List α} {css : List (List Value)} {fys : List (List Nat)} (hys : OwAll E w ys css fys) (hs : SrcS w E.size (a.eval x) ys.length css.flatten) (hd : (fp ++ fys.flatten).Nodup)
    (h63 : l.length + ys.length ≤ maxLen) (hbytes : (l.length + ys.length) * bytes ≤ 140737488355328)
    (h : ∀ v' w' fp', (sliceE E ty).ow w' [v'] (l ++ ys) fp' → fp'.Nodup → (∀ b, b ∈ fp' → b ∈ fp ∨ b ∈ fys.flatten ∨ w.heap.size ≤ b) → But fp w w' → K (a.put o.dst v') w') : if Region.wanted o (yielded ops a.tmps) = true then Oper.wp P o a w K Q else X := by
  obtain ⟨v', w', fp', hr, k1, k2, k3, k4, -⟩ := own_append (P := P) w t o.type i z bytes ht hi hz hsize hby hzs hsz hown (a.eval x) hys hs hd h63 hbytes
  rw [if_pos (by simp [Region.wanted, hgd])]
  unfold Oper.wp execOp
  simp only [ho, resolve, invoke, builtin, Sem.run_bind, Sem.run_pure, Result.andThen_ok, List.map_toArray, List.map_cons, List.map_nil, hv, hr]
  exact (h v' w' fp' k1 k2 k3 k4)

theorem step_append_one {α : Type} {E : Enc α} {ty : TypeId} {P : Program} {w : World} {ops : Array Oper} {o : Oper} {a : Act} {K : Act → World → Prop} {Q : Exit → Act → World → Prop} {X : Prop} (hgd : o.guard = none) (s x : Operand) (t : TypeId)
    (ho : o.op = .call { callee := .builtin .append, args := #[s, x], argTypes := #[t, t] })
    (i : TypeInfo) (z : Value) (bytes : Nat) (ht : P.underlying t = some (.slice ty)) (hi : P.info? ty = some i) (hz : i.zero = some z)
    (hsize : i.size = E.size) (hby : i.bytes = bytes) (hzs : z.cells.size = E.size) (hsz : 0 < E.size) (hb64 : bytes ≤ 64) {v : Value} {l : List α} {fp : List Nat} (hv : a.eval s = v) (hown : (sliceE E ty).ow w [v] l fp) (hn : fp.Nodup)
    {g c : Nat} (hx : a.eval x = .slice (some ⟨g, 0, none⟩) 1 c) {y : α} {cs : List Value} {fy : List Nat} (hc : ∀ j u, cs[j]? = some u → w.cell? ⟨g, j, none⟩ = some u) (h1 : ∀ u, u ∈ cs → u.oneCell' = true) (hy : E.ow w cs y fy)
    (hny : fy.Nodup) (hd : ∀ b, b ∈ fy → b ∉ fp) (hlen : l.length ≤ 1000000000000)
    (h : ∀ v' w' fp', (sliceE E ty).ow w' [v'] (l ++ [y]) fp' → fp'.Nodup → (∀ b, b ∈ fp' → b ∈ fp ∨ b ∈ fy ∨ w.heap.size ≤ b) → But fp w w' → K (a.put o.dst v') w') : if Region.wanted o (yielded ops a.tmps) = true then Oper.wp P o a w K Q else X := by
  have hcl : cs.length = E.size := E.rd_len (E.rd_ow hy)
  have hb : (l.length + [y].length) * bytes ≤ 140737488355328 := by
    have : (l.length + [y].length) * bytes ≤ 1000000000001 * 64 := Nat.mul_le_mul (by simp; omega) hb64
    omega
  refine step_append_enc (E := E) (ty := ty) hgd s x t ho i z bytes ht hi hz hsize hby hzs hsz hv hown (OwAll.one hy) ?_ ?_ (by simp [maxLen]; omega) hb (fun v' w' fp' k1 k2 k3 k4 => h v' w' fp' k1 k2 (fun b hb => by have := k3 b hb; simpa using this) k4)
  · rw [hx]
    exact SrcS.one (ad := ⟨g, 0, none⟩) hcl (fun j u hu => by rw [Addr.add_lit]; simpa using hc j u hu) h1
  · rw [List.nodup_append]
    exact ⟨hn, by simpa using hny, fun p hp q hq e => hd q (by simpa using hq) (e ▸ hp)⟩

theorem sapp1_Int64S {w : World} {ops : Array Oper} {o : Oper} {a : Act} {K : Act → World → Prop} {Q : Exit → Act → World → Prop} {X : Prop} (hgd : o.guard = none) (s x : Operand)
    (ho : o.op = .call { callee := .builtin .append, args := #[s, x], argTypes := #[106, 106] }) {v : Value} {l : List _} {fp : List Nat} (hv : a.eval s = v) (hown : (sliceE intE 2).ow w [v] l fp) (hn : fp.Nodup)
    {g c : Nat} (hx : a.eval x = .slice (some ⟨g, 0, none⟩) 1 c) {y : _} {cs : List Value} {fy : List Nat} (hc : ∀ j u, cs[j]? = some u → w.cell? ⟨g, j, none⟩ = some u) (h1 : ∀ u, u ∈ cs → u.oneCell' = true) (hy : (intE).ow w cs y fy)
    (hny : fy.Nodup) (hd : ∀ b, b ∈ fy → b ∉ fp) (hlen : l.length ≤ 1000000000000)
    (h : ∀ v' w' fp', (sliceE intE 2).ow w' [v'] (l ++ [y]) fp' → fp'.Nodup → (∀ b, b ∈ fp' → b ∈ fp ∨ b ∈ fy ∨ w.heap.size ≤ b) → But fp w w' → K (a.put o.dst v') w') : if Region.wanted o (yielded ops a.tmps) = true then Oper.wp Tryd.prog o a w K Q else X := by
  obtain ⟨i0, hi, hz0, hz1, hz2⟩ := info_parts inf_Int64S
  exact step_append_one (E := intE) (ty := 2) hgd s x _ ho i0 _ _ Tryd.underlying106 hi hz0 hz1 hz2 rfl (by decide) (by decide) hv hown hn hx hc h1 hy hny hd hlen h

theorem sappS_Int64S {w : World} {ops : Array Oper} {o : Oper} {a : Act} {K : Act → World → Prop} {Q : Exit → Act → World → Prop} {X : Prop} (hgd : o.guard = none) (s x : Operand)
    (ho : o.op = .call { callee := .builtin .append, args := #[s, x], argTypes := #[106, 106] }) {v : Value} {l : List _} {fp : List Nat} (hv : a.eval s = v) (hown : (sliceE intE 2).ow w [v] l fp)
    {ys : List _} {css : List (List Value)} {fys : List (List Nat)} (hys : OwAll (intE) w ys css fys) (hs : SrcS w (intE).size (a.eval x) ys.length css.flatten) (hd : (fp ++ fys.flatten).Nodup) (hlen : l.length + ys.length ≤ 1000000000000)
    (h : ∀ v' w' fp', (sliceE intE 2).ow w' [v'] (l ++ ys) fp' → fp'.Nodup → (∀ b, b ∈ fp' → b ∈ fp ∨ b ∈ fys.flatten ∨ w.heap.size ≤ b) → But fp w w' → K (a.put o.dst v') w') : if Region.wanted o (yielded ops a.tmps) = true then Oper.wp Tryd.prog o a w K Q else X := by
  obtain ⟨i0, hi, hz0, hz1, hz2⟩ := info_parts inf_Int64S
  exact step_append_enc (E := intE) (ty := 2) hgd s x _ ho i0 _ _ Tryd.underlying106 hi hz0 hz1 hz2 rfl (by decide) hv hown hys hs hd (by simp only [maxLen]; omega) (by omega) h

theorem sst1_Int64S {w0 w : World} {ps : List Ob} {ops : Array Oper} {o : Oper} {a : Act} {K : Act → World → Prop} {Q : Exit → Act → World → Prop} {X : Prop} {s x : Operand} {v : Value} {l : List (Int)} {b c : Nat} {y : Int} {cs : List Value}
    (S : Star w0 w (oE (sliceE intE 2) [v] l :: oE intE cs y :: ps)) (hgd : o.guard = none)
    (ho : o.op = .call { callee := .builtin .append, args := #[s, x], argTypes := #[106, 106] }) (hv : a.eval s = v)
    (hx : a.eval x = .slice (some ⟨b, 0, none⟩) 1 c) (hc : ∀ j u, cs[j]? = some u → w.cell? ⟨b, j, none⟩ = some u) (h1 : ∀ u, u ∈ cs → u.oneCell' = true) (hlen : l.length ≤ 1000000000000)
    (h : ∀ sa sn sc w', Star w0 w' (oE (sliceE intE 2) [.slice sa sn sc] (l ++ [y]) :: ps) → K (a.put o.dst (.slice sa sn sc)) w') : if Region.wanted o (yielded ops a.tmps) = true then Oper.wp Tryd.prog o a w K Q else X := by
  obtain ⟨B, fp, hh, d⟩ := S
  obtain ⟨p1, p2, p3⟩ := hh 0 _ rfl
  obtain ⟨q1, q2, q3⟩ := hh 1 _ rfl
  have d01 := d 1 0 (by omega) (by simp) (by simp)
  refine sapp1_Int64S hgd s x ho hv p1 p2 hx hc h1 q1 q2 d01 hlen (fun v' w' fp' k1 k2 k3 k4 => ?_)
  obtain ⟨sa, sn, sc, rfl⟩ := ow_slice k1
  refine h sa sn sc w' ⟨B.trans (k4.below (fun b hb => (p3 b hb).1) B.size), fun i => match i with | 0 => fp' | i + 1 => fp (i + 2), fun i Q hQ => ?_, fun i j hij hi hj => ?_⟩
  · cases i with
    | zero =>
      obtain rfl : _ = Q := by simpa using hQ
      refine ⟨k1, k2, fun b hm => ⟨?_, Enc.ow_lt _ k1 b hm⟩⟩
      rcases k3 b hm with h1 | h1 | h1
      · exact (p3 b h1).1
      · exact (q3 b h1).1
      · have := B.size; omega
    | succ i =>
      have hQ' : ps[i]? = some Q := by simpa using hQ
      obtain ⟨h1, h2, h3⟩ := hh (i + 2) Q hQ'
      have hil := (List.getElem?_eq_some_iff.1 hQ').1
      refine ⟨Q.frame (fun b hm => k4.block b (h3 b hm).2 (fun hf => ?_)) h1, h2, fun b hm => ⟨(h3 b hm).1, Nat.lt_of_lt_of_le (h3 b hm).2 k4.size⟩⟩
      exact d 0 (i + 2) (by omega) (by simp) (by simpa using hil) b hf hm
  · have hd0 : ∀ i, i < ps.length → Dj fp' (fp (i + 2)) := by
      intro i hi b hb1 hb2
      rcases k3 b hb1 with h1 | h1 | h1
      · exact d 0 (i + 2) (by omega) (by simp) (by simpa using hi) b h1 hb2
      · exact d 1 (i + 2) (by omega) (by simp) (by simpa using hi) b h1 hb2
      · have := ((hh (i + 2) _ (by rw [List.getElem?_cons_succ, List.getElem?_cons_succ]; exact List.getElem?_eq_getElem hi)).2.2 b hb2).2
        omega
    cases i with
    | zero =>
      cases j with
      | zero => exact absurd rfl hij
      | succ j => exact hd0 j (by simpa using hj)
    | succ i =>
      cases j with
      | zero => exact (hd0 i (by simpa using hi)).symm
      | succ j => exact d (i + 2) (j + 2) (by omega) (by simpa using hi) (by simpa using hj)

theorem sstS_Int64S {w0 w : World} {ps : List Ob} {ops : Array Oper} {o : Oper} {a : Act} {K : Act → World → Prop} {Q : Exit → Act → World → Prop} {X : Prop} {s x : Operand} {v : Value} {l : List (Int)} {ys : List (Int)} {css : List (List Value)} {fys : List (List Nat)}
    (S : Star w0 w (oE (sliceE intE 2) [v] l :: ps)) (hgd : o.guard = none)
    (ho : o.op = .call { callee := .builtin .append, args := #[s, x], argTypes := #[106, 106] }) (hv : a.eval s = v)
    (hys : OwAll (intE) w ys css fys) (hfy : fys.flatten = []) (hs : SrcS w (intE).size (a.eval x) ys.length css.flatten) (hlen : l.length + ys.length ≤ 1000000000000)
    (h : ∀ sa sn sc w', Star w0 w' (oE (sliceE intE 2) [.slice sa sn sc] (l ++ ys) :: ps) → K (a.put o.dst (.slice sa sn sc)) w') : if Region.wanted o (yielded ops a.tmps) = true then Oper.wp Tryd.prog o a w K Q else X := by
  obtain ⟨B, fp, hh, d⟩ := S
  obtain ⟨p1, p2, p3⟩ := hh 0 _ rfl
  refine sappS_Int64S hgd s x ho hv p1 hys hs (by rw [hfy, List.append_nil]; exact p2) hlen (fun v' w' fp' k1 k2 k3 k4 => ?_)
  rw [hfy] at k3
  obtain ⟨sa, sn, sc, rfl⟩ := ow_slice k1
  refine h sa sn sc w' ⟨B.trans (k4.below (fun b hb => (p3 b hb).1) B.size), fun i => match i with | 0 => fp' | i + 1 => fp (i + 1), fun i Q hQ => ?_, fun i j hij hi hj => ?_⟩
  · cases i with
    | zero =>
      obtain rfl : _ = Q := by simpa using hQ
      refine ⟨k1, k2, fun b hm => ⟨?_, Enc.ow_lt _ k1 b hm⟩⟩
      rcases k3 b hm with h1 | h1 | h1
      · exact (p3 b h1).1
      · cases h1
      · have := B.size; omega
    | succ i =>
      have hQ' : ps[i]? = some Q := by simpa using hQ
      obtain ⟨h1, h2, h3⟩ := hh (i + 1) Q hQ'
      have hil := (List.getElem?_eq_some_iff.1 hQ').1
      refine ⟨Q.frame (fun b hm => k4.block b (h3 b hm).2 (fun hf => ?_)) h1, h2, fun b hm => ⟨(h3 b hm).1, Nat.lt_of_lt_of_le (h3 b hm).2 k4.size⟩⟩
      exact d 0 (i + 1) (by omega) (by simp) (by simpa using hil) b hf hm
  · have hd0 : ∀ i, i < ps.length → Dj fp' (fp (i + 1)) := by
      intro i hi b hb1 hb2
      rcases k3 b hb1 with h1 | h1 | h1
      · exact d 0 (i + 1) (by omega) (by simp) (by simpa using hi) b h1 hb2
      · cases h1
      · have := ((hh (i + 1) _ (by rw [List.getElem?_cons_succ]; exact List.getElem?_eq_getElem hi)).2.2 b hb2).2
        omega
    cases i with
    | zero =>
      cases j with
      | zero => exact absurd rfl hij
      | succ j => exact hd0 j (by simpa using hj)
    | succ i =>
      cases j with
      | zero => exact (hd0 i (by simpa using hi)).symm
      | succ j => exact d (i + 1) (j + 1) (by omega) (by simpa using hi) (by simpa using hj)

theorem sapp1_MoveS {w : World} {ops : Array Oper} {o : Oper} {a : Act} {K : Act → World → Prop} {Q : Exit → Act → World → Prop} {X : Prop} (hgd : o.guard = none) (s x : Operand)
    (ho : o.op = .call { callee := .builtin .append, args := #[s, x], argTypes := #[66, 66] }) {v : Value} {l : List _} {fp : List Nat} (hv : a.eval s = v) (hown : (sliceE moveE 65).ow w [v] l fp) (hn : fp.Nodup)
    {g c : Nat} (hx : a.eval x = .slice (some ⟨g, 0, none⟩) 1 c) {y : _} {cs : List Value} {fy : List Nat} (hc : ∀ j u, cs[j]? = some u → w.cell? ⟨g, j, none⟩ = some u) (h1 : ∀ u, u ∈ cs → u.oneCell' = true) (hy : (moveE).ow w cs y fy)
    (hny : fy.Nodup) (hd : ∀ b, b ∈ fy → b ∉ fp) (hlen : l.length ≤ 1000000000000)
    (h : ∀ v' w' fp', (sliceE moveE 65).ow w' [v'] (l ++ [y]) fp' → fp'.Nodup → (∀ b, b ∈ fp' → b ∈ fp ∨ b ∈ fy ∨ w.heap.size ≤ b) → But fp w w' → K (a.put o.dst v') w') : if Region.wanted o (yielded ops a.tmps) = true then Oper.wp Tryd.prog o a w K Q else X := by
  obtain ⟨i0, hi, hz0, hz1, hz2⟩ := info_parts inf_MoveS
  exact step_append_one (E := moveE) (ty := 65) hgd s x _ ho i0 _ _ Tryd.underlying66 hi hz0 hz1 hz2 rfl (by decide) (by decide) hv hown hn hx hc h1 hy hny hd hlen h

theorem sappS_MoveS {w : World} {ops : Array Oper} {o : Oper} {a : Act} {K : Act → World → Prop} {Q : Exit → Act → World → Prop} {X : Prop} (hgd : o.guard = none) (s x : Operand)
    (ho : o.op = .call { callee := .builtin .append, args := #[s, x], argTypes := #[66, 66] }) {v : Value} {l : List _} {fp : List Nat} (hv : a.eval s = v) (hown : (sliceE moveE 65).ow w [v] l fp)
    {ys : List _} {css : List (List Value)} {fys : List (List Nat)} (hys : OwAll (moveE) w ys css fys) (hs : SrcS w (moveE).size (a.eval x) ys.length css.flatten) (hd : (fp ++ fys.flatten).Nodup) (hlen : l.length + ys.length ≤ 1000000000000)
    (h : ∀ v' w' fp', (sliceE moveE 65).ow w' [v'] (l ++ ys) fp' → fp'.Nodup → (∀ b, b ∈ fp' → b ∈ fp ∨ b ∈ fys.flatten ∨ w.heap.size ≤ b) → But fp w w' → K (a.put o.dst v') w') : if Region.wanted o (yielded ops a.tmps) = true then Oper.wp Tryd.prog o a w K Q else X := by
  obtain ⟨i0, hi, hz0, hz1, hz2⟩ := info_parts inf_MoveS
  exact step_append_enc (E := moveE) (ty := 65) hgd s x _ ho i0 _ _ Tryd.underlying66 hi hz0 hz1 hz2 rfl (by decide) hv hown hys hs hd (by simp only [maxLen]; omega) (by omega) h

theorem sst1_MoveS {w0 w : World} {ps : List Ob} {ops : Array Oper} {o : Oper} {a : Act} {K : Act → World → Prop} {Q : Exit → Act → World → Prop} {X : Prop} {s x : Operand} {v : Value} {l : List (Move)} {b c : Nat} {y : Move} {cs : List Value}
    (S : Star w0 w (oE (sliceE moveE 65) [v] l :: oE moveE cs y :: ps)) (hgd : o.guard = none)
    (ho : o.op = .call { callee := .builtin .append, args := #[s, x], argTypes := #[66, 66] }) (hv : a.eval s = v)
    (hx : a.eval x = .slice (some ⟨b, 0, none⟩) 1 c) (hc : ∀ j u, cs[j]? = some u → w.cell? ⟨b, j, none⟩ = some u) (h1 : ∀ u, u ∈ cs → u.oneCell' = true) (hlen : l.length ≤ 1000000000000)
    (h : ∀ sa sn sc w', Star w0 w' (oE (sliceE moveE 65) [.slice sa sn sc] (l ++ [y]) :: ps) → K (a.put o.dst (.slice sa sn sc)) w') : if Region.wanted o (yielded ops a.tmps) = true then Oper.wp Tryd.prog o a w K Q else X := by
  obtain ⟨B, fp, hh, d⟩ := S
  obtain ⟨p1, p2, p3⟩ := hh 0 _ rfl
  obtain ⟨q1, q2, q3⟩ := hh 1 _ rfl
  have d01 := d 1 0 (by omega) (by simp) (by simp)
  refine sapp1_MoveS hgd s x ho hv p1 p2 hx hc h1 q1 q2 d01 hlen (fun v' w' fp' k1 k2 k3 k4 => ?_)
  obtain ⟨sa, sn, sc, rfl⟩ := ow_slice k1
  refine h sa sn sc w' ⟨B.trans (k4.below (fun b hb => (p3 b hb).1) B.size), fun i => match i with | 0 => fp' | i + 1 => fp (i + 2), fun i Q hQ => ?_, fun i j hij hi hj => ?_⟩
  · cases i with
    | zero =>
      obtain rfl : _ = Q := by simpa using hQ
      refine ⟨k1, k2, fun b hm => ⟨?_, Enc.ow_lt _ k1 b hm⟩⟩
      rcases k3 b hm with h1 | h1 | h1
      · exact (p3 b h1).1
      · exact (q3 b h1).1
      · have := B.size; omega
    | succ i =>
      have hQ' : ps[i]? = some Q := by simpa using hQ
      obtain ⟨h1, h2, h3⟩ := hh (i + 2) Q hQ'
      have hil := (List.getElem?_eq_some_iff.1 hQ').1
      refine ⟨Q.frame (fun b hm => k4.block b (h3 b hm).2 (fun hf => ?_)) h1, h2, fun b hm => ⟨(h3 b hm).1, Nat.lt_of_lt_of_le (h3 b hm).2 k4.size⟩⟩
      exact d 0 (i + 2) (by omega) (by simp) (by simpa using hil) b hf hm
  · have hd0 : ∀ i, i < ps.length → Dj fp' (fp (i + 2)) := by
      intro i hi b hb1 hb2
      rcases k3 b hb1 with h1 | h1 | h1
      · exact d 0 (i + 2) (by omega) (by simp) (by simpa using hi) b h1 hb2
      · exact d 1 (i + 2) (by omega) (by simp) (by simpa using hi) b h1 hb2
      · have := ((hh (i + 2) _ (by rw [List.getElem?_cons_succ, List.getElem?_cons_succ]; exact List.getElem?_eq_getElem hi)).2.2 b hb2).2
        omega
    cases i with
    | zero =>
      cases j with
      | zero => exact absurd rfl hij
      | succ j => exact hd0 j (by simpa using hj)
    | succ i =>
      cases j with
      | zero => exact (hd0 i (by simpa using hi)).symm
      | succ j => exact d (i + 2) (j + 2) (by omega) (by simpa using hi) (by simpa using hj)

theorem sstS_MoveS {w0 w : World} {ps : List Ob} {ops : Array Oper} {o : Oper} {a : Act} {K : Act → World → Prop} {Q : Exit → Act → World → Prop} {X : Prop} {s x : Operand} {v : Value} {l : List (Move)} {ys : List (Move)} {css : List (List Value)} {fys : List (List Nat)}
    (S : Star w0 w (oE (sliceE moveE 65) [v] l :: ps)) (hgd : o.guard = none)
    (ho : o.op = .call { callee := .builtin .append, args := #[s, x], argTypes := #[66, 66] }) (hv : a.eval s = v)
    (hys : OwAll (moveE) w ys css fys) (hfy : fys.flatten = []) (hs : SrcS w (moveE).size (a.eval x) ys.length css.flatten) (hlen : l.length + ys.length ≤ 1000000000000)
    (h : ∀ sa sn sc w', Star w0 w' (oE (sliceE moveE 65) [.slice sa sn sc] (l ++ ys) :: ps) → K (a.put o.dst (.slice sa sn sc)) w') : if Region.wanted o (yielded ops a.tmps) = true then Oper.wp Tryd.prog o a w K Q else X := by
  obtain ⟨B, fp, hh, d⟩ := S
  obtain ⟨p1, p2, p3⟩ := hh 0 _ rfl
  refine sappS_MoveS hgd s x ho hv p1 hys hs (by rw [hfy, List.append_nil]; exact p2) hlen (fun v' w' fp' k1 k2 k3 k4 => ?_)
  rw [hfy] at k3
  obtain ⟨sa, sn, sc, rfl⟩ := ow_slice k1
  refine h sa sn sc w' ⟨B.trans (k4.below (fun b hb => (p3 b hb).1) B.size), fun i => match i with | 0 => fp' | i + 1 => fp (i + 1), fun i Q hQ => ?_, fun i j hij hi hj => ?_⟩
  · cases i with
    | zero =>
      obtain rfl : _ = Q := by simpa using hQ
      refine ⟨k1, k2, fun b hm => ⟨?_, Enc.ow_lt _ k1 b hm⟩⟩
      rcases k3 b hm with h1 | h1 | h1
      · exact (p3 b h1).1
      · cases h1
      · have := B.size; omega
    | succ i =>
      have hQ' : ps[i]? = some Q := by simpa using hQ
      obtain ⟨h1, h2, h3⟩ := hh (i + 1) Q hQ'
      have hil := (List.getElem?_eq_some_iff.1 hQ').1
      refine ⟨Q.frame (fun b hm => k4.block b (h3 b hm).2 (fun hf => ?_)) h1, h2, fun b hm => ⟨(h3 b hm).1, Nat.lt_of_lt_of_le (h3 b hm).2 k4.size⟩⟩
      exact d 0 (i + 1) (by omega) (by simp) (by simpa using hil) b hf hm
  · have hd0 : ∀ i, i < ps.length → Dj fp' (fp (i + 1)) := by
      intro i hi b hb1 hb2
      rcases k3 b hb1 with h1 | h1 | h1
      · exact d 0 (i + 1) (by omega) (by simp) (by simpa using hi) b h1 hb2
      · cases h1
      · have := ((hh (i + 1) _ (by rw [List.getElem?_cons_succ]; exact List.getElem?_eq_getElem hi)).2.2 b hb2).2
        omega
    cases i with
    | zero =>
      cases j with
      | zero => exact absurd rfl hij
      | succ j => exact hd0 j (by simpa using hj)
    | succ i =>
      cases j with
      | zero => exact (hd0 i (by simpa using hi)).symm
      | succ j => exact d (i + 1) (j + 1) (by omega) (by simpa using hi) (by simpa using hj)

theorem sapp1_MoveSS {w : World} {ops : Array Oper} {o : Oper} {a : Act} {K : Act → World → Prop} {Q : Exit → Act → World → Prop} {X : Prop} (hgd : o.guard = none) (s x : Operand)
    (ho : o.op = .call { callee := .builtin .append, args := #[s, x], argTypes := #[30, 30] }) {v : Value} {l : List _} {fp : List Nat} (hv : a.eval s = v) (hown : (sliceE movesE 66).ow w [v] l fp) (hn : fp.Nodup)
    {g c : Nat} (hx : a.eval x = .slice (some ⟨g, 0, none⟩) 1 c) {y : _} {cs : List Value} {fy : List Nat} (hc : ∀ j u, cs[j]? = some u → w.cell? ⟨g, j, none⟩ = some u) (h1 : ∀ u, u ∈ cs → u.oneCell' = true) (hy : (movesE).ow w cs y fy)
    (hny : fy.Nodup) (hd : ∀ b, b ∈ fy → b ∉ fp) (hlen : l.length ≤ 1000000000000)
    (h : ∀ v' w' fp', (sliceE movesE 66).ow w' [v'] (l ++ [y]) fp' → fp'.Nodup → (∀ b, b ∈ fp' → b ∈ fp ∨ b ∈ fy ∨ w.heap.size ≤ b) → But fp w w' → K (a.put o.dst v') w') : if Region.wanted o (yielded ops a.tmps) = true then Oper.wp Tryd.prog o a w K Q else X := by
  obtain ⟨i0, hi, hz0, hz1, hz2⟩ := info_parts inf_MoveSS
  exact step_append_one (E := movesE) (ty := 66) hgd s x _ ho i0 _ _ Tryd.underlying30 hi hz0 hz1 hz2 rfl (by decide) (by decide) hv hown hn hx hc h1 hy hny hd hlen h

theorem sappS_MoveSS {w : World} {ops : Array Oper} {o : Oper} {a : Act} {K : Act → World → Prop} {Q : Exit → Act → World → Prop} {X : Prop} (hgd : o.guard = none) (s x : Operand)
    (ho : o.op = .call { callee := .builtin .append, args := #[s, x], argTypes := #[30, 30] }) {v : Value} {l : List _} {fp : List Nat} (hv : a.eval s = v) (hown : (sliceE movesE 66).ow w [v] l fp)
    {ys : List _} {css : List (List Value)} {fys : List (List Nat)} (hys : OwAll (movesE) w ys css fys) (hs : SrcS w (movesE).size (a.eval x) ys.length css.flatten) (hd : (fp ++ fys.flatten).Nodup) (hlen : l.length + ys.length ≤ 1000000000000)
    (h : ∀ v' w' fp', (sliceE movesE 66).ow w' [v'] (l ++ ys) fp' → fp'.Nodup → (∀ b, b ∈ fp' → b ∈ fp ∨ b ∈ fys.flatten ∨ w.heap.size ≤ b) → But fp w w' → K (a.put o.dst v') w') : if Region.wanted o (yielded ops a.tmps) = true then Oper.wp Tryd.prog o a w K Q else X := by
  obtain ⟨i0, hi, hz0, hz1, hz2⟩ := info_parts inf_MoveSS
  exact step_append_enc (E := movesE) (ty := 66) hgd s x _ ho i0 _ _ Tryd.underlying30 hi hz0 hz1 hz2 rfl (by decide) hv hown hys hs hd (by simp only [maxLen]; omega) (by omega) h

theorem sst1_MoveSS {w0 w : World} {ps : List Ob} {ops : Array Oper} {o : Oper} {a : Act} {K : Act → World → Prop} {Q : Exit → Act → World → Prop} {X : Prop} {s x : Operand} {v : Value} {l : List (List Move)} {b c : Nat} {y : List Move} {cs : List Value}
    (S : Star w0 w (oE (sliceE movesE 66) [v] l :: oE movesE cs y :: ps)) (hgd : o.guard = none)
    (ho : o.op = .call { callee := .builtin .append, args := #[s, x], argTypes := #[30, 30] }) (hv : a.eval s = v)
    (hx : a.eval x = .slice (some ⟨b, 0, none⟩) 1 c) (hc : ∀ j u, cs[j]? = some u → w.cell? ⟨b, j, none⟩ = some u) (h1 : ∀ u, u ∈ cs → u.oneCell' = true) (hlen : l.length ≤ 1000000000000)
    (h : ∀ sa sn sc w', Star w0 w' (oE (sliceE movesE 66) [.slice sa sn sc] (l ++ [y]) :: ps) → K (a.put o.dst (.slice sa sn sc)) w') : if Region.wanted o (yielded ops a.tmps) = true then Oper.wp Tryd.prog o a w K Q else X := by
  obtain ⟨B, fp, hh, d⟩ := S
  obtain ⟨p1, p2, p3⟩ := hh 0 _ rfl
  obtain ⟨q1, q2, q3⟩ := hh 1 _ rfl
  have d01 := d 1 0 (by omega) (by simp) (by simp)
  refine sapp1_MoveSS hgd s x ho hv p1 p2 hx hc h1 q1 q2 d01 hlen (fun v' w' fp' k1 k2 k3 k4 => ?_)
  obtain ⟨sa, sn, sc, rfl⟩ := ow_slice k1
  refine h sa sn sc w' ⟨B.trans (k4.below (fun b hb => (p3 b hb).1) B.size), fun i => match i with | 0 => fp' | i + 1 => fp (i + 2), fun i Q hQ => ?_, fun i j hij hi hj => ?_⟩
  · cases i with
    | zero =>
      obtain rfl : _ = Q := by simpa using hQ
      refine ⟨k1, k2, fun b hm => ⟨?_, Enc.ow_lt _ k1 b hm⟩⟩
      rcases k3 b hm with h1 | h1 | h1
      · exact (p3 b h1).1
      · exact (q3 b h1).1
      · have := B.size; omega
    | succ i =>
      have hQ' : ps[i]? = some Q := by simpa using hQ
      obtain ⟨h1, h2, h3⟩ := hh (i + 2) Q hQ'
      have hil := (List.getElem?_eq_some_iff.1 hQ').1
      refine ⟨Q.frame (fun b hm => k4.block b (h3 b hm).2 (fun hf => ?_)) h1, h2, fun b hm => ⟨(h3 b hm).1, Nat.lt_of_lt_of_le (h3 b hm).2 k4.size⟩⟩
      exact d 0 (i + 2) (by omega) (by simp) (by simpa using hil) b hf hm
  · have hd0 : ∀ i, i < ps.length → Dj fp' (fp (i + 2)) := by
      intro i hi b hb1 hb2
      rcases k3 b hb1 with h1 | h1 | h1
      · exact d 0 (i + 2) (by omega) (by simp) (by simpa using hi) b h1 hb2
      · exact d 1 (i + 2) (by omega) (by simp) (by simpa using hi) b h1 hb2
      · have := ((hh (i + 2) _ (by rw [List.getElem?_cons_succ, List.getElem?_cons_succ]; exact List.getElem?_eq_getElem hi)).2.2 b hb2).2
        omega
    cases i with
    | zero =>
      cases j with
      | zero => exact absurd rfl hij
      | succ j => exact hd0 j (by simpa using hj)
    | succ i =>
      cases j with
      | zero => exact (hd0 i (by simpa using hi)).symm
      | succ j => exact d (i + 2) (j + 2) (by omega) (by simpa using hi) (by simpa using hj)

theorem cell_ad {w : World} {cs : List Value} {ty : TypeId} : ∀ j u, cs[j]? = some u → (w.alloc (.cells cs.toArray ty)).drew.cell? ⟨w.heap.size, j, none⟩ = some u := fun j _ hu => (Blk.new w cs.toArray ty).cell j (by simpa using hu)

theorem cell_da {w : World} {cs : List Value} {ty : TypeId} : ∀ j u, cs[j]? = some u → (w.drew.alloc (.cells cs.toArray ty)).cell? ⟨w.heap.size, j, none⟩ = some u := fun j _ hu => (Blk.new w cs.toArray ty).cell j (by simpa using hu)

end Go.Proofs.YtnkhgfdlehhjmaaDoor

/-
  Plain lemmas: append in a region that draws, and the memory does not shrink (written by a program of this claim's own, gen_join.py, out of XStep).
-/
namespace Go.Proofs.YtnkhgfdlehhjmaaDoor
open Go.RowKit

theorem sst1z_MoveSS {w0 w : World} {ps : List Ob} {ops : Array Oper} {o : Oper} {a : Act} {K : Act → World → Prop} {Q : Exit → Act → World → Prop} {X : Prop} {s x : Operand} {v : Value} {l : List (List Move)} {b c : Nat} {y : List Move} {cs : List Value}
    (S : Star w0 w (oE (sliceE movesE 66) [v] l :: oE movesE cs y :: ps)) (hgd : o.guard = none)
    (ho : o.op = .call { callee := .builtin .append, args := #[s, x], argTypes := #[30, 30] }) (hv : a.eval s = v)
    (hx : a.eval x = .slice (some ⟨b, 0, none⟩) 1 c) (hc : ∀ j u, cs[j]? = some u → w.cell? ⟨b, j, none⟩ = some u) (h1 : ∀ u, u ∈ cs → u.oneCell' = true) (hlen : l.length ≤ 1000000000000)
    (h : ∀ sa sn sc w', w.heap.size ≤ w'.heap.size → Star w0 w' (oE (sliceE movesE 66) [.slice sa sn sc] (l ++ [y]) :: ps) → K (a.put o.dst (.slice sa sn sc)) w') : if Region.wanted o (yielded ops a.tmps) = true then Oper.wp Tryd.prog o a w K Q else X := by
  obtain ⟨B, fp, hh, d⟩ := S
  obtain ⟨p1, p2, p3⟩ := hh 0 _ rfl
  obtain ⟨q1, q2, q3⟩ := hh 1 _ rfl
  have d01 := d 1 0 (by omega) (by simp) (by simp)
  refine sapp1_MoveSS hgd s x ho hv p1 p2 hx hc h1 q1 q2 d01 hlen (fun v' w' fp' k1 k2 k3 k4 => ?_)
  obtain ⟨sa, sn, sc, rfl⟩ := ow_slice k1
  refine h sa sn sc w' k4.size ⟨B.trans (k4.below (fun b hb => (p3 b hb).1) B.size), fun i => match i with | 0 => fp' | i + 1 => fp (i + 2), fun i Q hQ => ?_, fun i j hij hi hj => ?_⟩
  · cases i with
    | zero =>
      obtain rfl : _ = Q := by simpa using hQ
      refine ⟨k1, k2, fun b hm => ⟨?_, Enc.ow_lt _ k1 b hm⟩⟩
      rcases k3 b hm with h1 | h1 | h1
      · exact (p3 b h1).1
      · exact (q3 b h1).1
      · have := B.size; omega
    | succ i =>
      have hQ' : ps[i]? = some Q := by simpa using hQ
      obtain ⟨h1, h2, h3⟩ := hh (i + 2) Q hQ'
      have hil := (List.getElem?_eq_some_iff.1 hQ').1
      refine ⟨Q.frame (fun b hm => k4.block b (h3 b hm).2 (fun hf => ?_)) h1, h2, fun b hm => ⟨(h3 b hm).1, Nat.lt_of_lt_of_le (h3 b hm).2 k4.size⟩⟩
      exact d 0 (i + 2) (by omega) (by simp) (by simpa using hil) b hf hm
  · have hd0 : ∀ i, i < ps.length → Dj fp' (fp (i + 2)) := by
      intro i hi b hb1 hb2
      rcases k3 b hb1 with h1 | h1 | h1
      · exact d 0 (i + 2) (by omega) (by simp) (by simpa using hi) b h1 hb2
      · exact d 1 (i + 2) (by omega) (by simp) (by simpa using hi) b h1 hb2
      · have := ((hh (i + 2) _ (by rw [List.getElem?_cons_succ, List.getElem?_cons_succ]; exact List.getElem?_eq_getElem hi)).2.2 b hb2).2
        omega
    cases i with
    | zero =>
      cases j with
      | zero => exact absurd rfl hij
      | succ j => exact hd0 j (by simpa using hj)
    | succ i =>
      cases j with
      | zero => exact (hd0 i (by simpa using hi)).symm
      | succ j => exact d (i + 2) (j + 2) (by omega) (by simpa using hi) (by simpa using hj)

theorem sst1z_MoveS {w0 w : World} {ps : List Ob} {ops : Array Oper} {o : Oper} {a : Act} {K : Act → World → Prop} {Q : Exit → Act → World → Prop} {X : Prop} {s x : Operand} {v : Value} {l : List (Move)} {b c : Nat} {y : Move} {cs : List Value}
    (S : Star w0 w (oE (sliceE moveE 65) [v] l :: oE moveE cs y :: ps)) (hgd : o.guard = none)
    (ho : o.op = .call { callee := .builtin .append, args := #[s, x], argTypes := #[66, 66] }) (hv : a.eval s = v)
    (hx : a.eval x = .slice (some ⟨b, 0, none⟩) 1 c) (hc : ∀ j u, cs[j]? = some u → w.cell? ⟨b, j, none⟩ = some u) (h1 : ∀ u, u ∈ cs → u.oneCell' = true) (hlen : l.length ≤ 1000000000000)
    (h : ∀ sa sn sc w', w.heap.size ≤ w'.heap.size → Star w0 w' (oE (sliceE moveE 65) [.slice sa sn sc] (l ++ [y]) :: ps) → K (a.put o.dst (.slice sa sn sc)) w') : if Region.wanted o (yielded ops a.tmps) = true then Oper.wp Tryd.prog o a w K Q else X := by
  obtain ⟨B, fp, hh, d⟩ := S
  obtain ⟨p1, p2, p3⟩ := hh 0 _ rfl
  obtain ⟨q1, q2, q3⟩ := hh 1 _ rfl
  have d01 := d 1 0 (by omega) (by simp) (by simp)
  refine sapp1_MoveS hgd s x ho hv p1 p2 hx hc h1 q1 q2 d01 hlen (fun v' w' fp' k1 k2 k3 k4 => ?_)
  obtain ⟨sa, sn, sc, rfl⟩ := ow_slice k1
  refine h sa sn sc w' k4.size ⟨B.trans (k4.below (fun b hb => (p3 b hb).1) B.size), fun i => match i with | 0 => fp' | i + 1 => fp (i + 2), fun i Q hQ => ?_, fun i j hij hi hj => ?_⟩
  · cases i with
    | zero =>
      obtain rfl : _ = Q := by simpa using hQ
      refine ⟨k1, k2, fun b hm => ⟨?_, Enc.ow_lt _ k1 b hm⟩⟩
      rcases k3 b hm with h1 | h1 | h1
      · exact (p3 b h1).1
      · exact (q3 b h1).1
      · have := B.size; omega
    | succ i =>
      have hQ' : ps[i]? = some Q := by simpa using hQ
      obtain ⟨h1, h2, h3⟩ := hh (i + 2) Q hQ'
      have hil := (List.getElem?_eq_some_iff.1 hQ').1
      refine ⟨Q.frame (fun b hm => k4.block b (h3 b hm).2 (fun hf => ?_)) h1, h2, fun b hm => ⟨(h3 b hm).1, Nat.lt_of_lt_of_le (h3 b hm).2 k4.size⟩⟩
      exact d 0 (i + 2) (by omega) (by simp) (by simpa using hil) b hf hm
  · have hd0 : ∀ i, i < ps.length → Dj fp' (fp (i + 2)) := by
      intro i hi b hb1 hb2
      rcases k3 b hb1 with h1 | h1 | h1
      · exact d 0 (i + 2) (by omega) (by simp) (by simpa using hi) b h1 hb2
      · exact d 1 (i + 2) (by omega) (by simp) (by simpa using hi) b h1 hb2
      · have := ((hh (i + 2) _ (by rw [List.getElem?_cons_succ, List.getElem?_cons_succ]; exact List.getElem?_eq_getElem hi)).2.2 b hb2).2
        omega
    cases i with
    | zero =>
      cases j with
      | zero => exact absurd rfl hij
      | succ j => exact hd0 j (by simpa using hj)
    | succ i =>
      cases j with
      | zero => exact (hd0 i (by simpa using hi)).symm
      | succ j => exact d (i + 2) (j + 2) (by omega) (by simpa using hi) (by simpa using hj)

theorem sstSz_MoveS {w0 w : World} {ps : List Ob} {ops : Array Oper} {o : Oper} {a : Act} {K : Act → World → Prop} {Q : Exit → Act → World → Prop} {X : Prop} {s x : Operand} {v : Value} {l : List (Move)} {ys : List (Move)} {css : List (List Value)} {fys : List (List Nat)}
    (S : Star w0 w (oE (sliceE moveE 65) [v] l :: ps)) (hgd : o.guard = none)
    (ho : o.op = .call { callee := .builtin .append, args := #[s, x], argTypes := #[66, 66] }) (hv : a.eval s = v)
    (hys : OwAll (moveE) w ys css fys) (hfy : fys.flatten = []) (hs : SrcS w (moveE).size (a.eval x) ys.length css.flatten) (hlen : l.length + ys.length ≤ 1000000000000)
    (h : ∀ sa sn sc w', w.heap.size ≤ w'.heap.size → Star w0 w' (oE (sliceE moveE 65) [.slice sa sn sc] (l ++ ys) :: ps) → K (a.put o.dst (.slice sa sn sc)) w') : if Region.wanted o (yielded ops a.tmps) = true then Oper.wp Tryd.prog o a w K Q else X := by
  obtain ⟨B, fp, hh, d⟩ := S
  obtain ⟨p1, p2, p3⟩ := hh 0 _ rfl
  refine sappS_MoveS hgd s x ho hv p1 hys hs (by rw [hfy, List.append_nil]; exact p2) hlen (fun v' w' fp' k1 k2 k3 k4 => ?_)
  rw [hfy] at k3
  obtain ⟨sa, sn, sc, rfl⟩ := ow_slice k1
  refine h sa sn sc w' k4.size ⟨B.trans (k4.below (fun b hb => (p3 b hb).1) B.size), fun i => match i with | 0 => fp' | i + 1 => fp (i + 1), fun i Q hQ => ?_, fun i j hij hi hj => ?_⟩
  · cases i with
    | zero =>
      obtain rfl : _ = Q := by simpa using hQ
      refine ⟨k1, k2, fun b hm => ⟨?_, Enc.ow_lt _ k1 b hm⟩⟩
      rcases k3 b hm with h1 | h1 | h1
      · exact (p3 b h1).1
      · cases h1
      · have := B.size; omega
    | succ i =>
      have hQ' : ps[i]? = some Q := by simpa using hQ
      obtain ⟨h1, h2, h3⟩ := hh (i + 1) Q hQ'
      have hil := (List.getElem?_eq_some_iff.1 hQ').1
      refine ⟨Q.frame (fun b hm => k4.block b (h3 b hm).2 (fun hf => ?_)) h1, h2, fun b hm => ⟨(h3 b hm).1, Nat.lt_of_lt_of_le (h3 b hm).2 k4.size⟩⟩
      exact d 0 (i + 1) (by omega) (by simp) (by simpa using hil) b hf hm
  · have hd0 : ∀ i, i < ps.length → Dj fp' (fp (i + 1)) := by
      intro i hi b hb1 hb2
      rcases k3 b hb1 with h1 | h1 | h1
      · exact d 0 (i + 1) (by omega) (by simp) (by simpa using hi) b h1 hb2
      · cases h1
      · have := ((hh (i + 1) _ (by rw [List.getElem?_cons_succ]; exact List.getElem?_eq_getElem hi)).2.2 b hb2).2
        omega
    cases i with
    | zero =>
      cases j with
      | zero => exact absurd rfl hij
      | succ j => exact hd0 j (by simpa using hj)
    | succ i =>
      cases j with
      | zero => exact (hd0 i (by simpa using hi)).symm
      | succ j => exact d (i + 1) (j + 1) (by omega) (by simpa using hi) (by simpa using hj)

end Go.Proofs.YtnkhgfdlehhjmaaDoor

/-
  Copies of lists of texts: the program's ownLists, the reference's l07Texts.
-/
namespace Go.Proofs.YtnkhgfdlehhjmaaDoor
open Go.RowKit

set_option maxHeartbeats 1000000 in
theorem ownLists_strs (v : Value) (l : List (List ByteArray)) (B : Nat) (w : World) (hB0 : B ≤ w.heap.size) (h : strssE.rd w B [v] l) (hl : l.length ≤ 1000000) (hm : ∀ x, x ∈ l → x.length ≤ 1000000) :
    Calls Tryd.prog 30 #[v] w (Makes strssE id l w) := by
  obtain ⟨a, cap, rfl, l1, l2, -, e4⟩ := rd_slice1 rfl h
  obtain ⟨n, hn⟩ : ∃ n, n = l.length := ⟨_, rfl⟩
  rw [← hn] at l1 e4 hl ⊢
  have HN := Lib.hid hn
  have E4 := Lib.hid e4
  have HM := Lib.hid hm
  clear h e4 hn hm
  have S := ((Star.nil w).alloc (cs := #[]) (ty := 47)).lit0 (α := List ByteArray) (E := strsE)
  go_enter Tryd.func30, Tryd.ntmps30
  go_wp2
  generalize hW : w.alloc _ = w0 at S ⊢
  clear hW
  go_loopw [3, 9] (fun vs s wr => ∃ k : Nat, ∃ vl, k ≤ n ∧ vs = vl ∧ s = .int .i64 k ∧ Star w wr [oE strssE [vl] (l.take k)]) (fun _ s _ => n - (intOf s).toNat)
  case atStart => exact ⟨0, _, by omega, rfl, rfl, S⟩
  case round =>
    clear S
    obtain ⟨k, vl, hk, rfl, rfl, S⟩ := hrel
    obtain ⟨la, ln, lc, rfl⟩ := S.slc 0 rfl
    by_cases hlt : k < n
    case neg =>
      obtain rfl : k = n := by omega
      have ht : l.take k = l := List.take_of_length_le (by rw [HN.out]; exact Nat.le_refl _)
      rw [ht] at S
      clear ht
      go_wp2
      go_ret
      exact S.done1
    obtain ⟨b, o, vk, rfl, -, hc, hr⟩ := E4.out k hlt
    have g1 := (S.below.cell (World.block_lt_of_cell? w _ hc)).trans hc
    have hlk : k < l.length := by rw [← HN.out]; exact hlt
    have hget : l[k]?.getD default = l[k] := by simp [List.getElem?_eq_getElem hlk]
    rw [hget] at hr
    have hlen : l[k].length ≤ 1000000000000 := Nat.le_trans (HM.out _ (List.getElem_mem hlk)) (by omega)
    have htk := List.take_succ_eq_append_getElem hlk
    obtain ⟨row, hrow⟩ : ∃ r, r = l[k] := ⟨_, rfl⟩
    rw [← hrow] at hr hlen htk
    have R := Lib.hid hr
    have HT := Lib.hid htk
    obtain ⟨ra, rn, rc, rfl⟩ := rd_slice hr
    clear hc hr hget htk hrow
    have hll : (l.take k).length ≤ 1000000000000 := Nat.le_trans (List.length_take_le _ _) (by omega)
    go_wp2_with fail
    refine (clone_strs _ row B _ (Nat.le_trans hB0 S.below.size) (strsE.rd_of (S.below.mono hB0) R.out) hlen).mono ?_
    rintro e w1 ⟨vc, fc, rfl, oc, nc, lo, b9⟩
    obtain ⟨ca, cn, cc, rfl⟩ := ow_slice oc
    have SC := ((S.made oc nc lo b9).alloc (cs := #[.slice ca cn cc]) (ty := 47)).sel [2, 1]
    clear oc nc lo b9
    go_wp2_with (at_builtin; refine st1_StringSS SC rfl rfl rfl rfl cell_a1 (one_mem rfl) hll ?_; intro ta tn tc w2 S2)
    go_roundw
    case rel => exact ⟨k + 1, _, by omega, rfl, by go_num, by rw [HT.out]; exact S2⟩
    case measure => simp [intOf]; omega

set_option maxHeartbeats 1000000 in
theorem l07Texts_any (v : Value) (l : List (List ByteArray)) (B : Nat) (w : World) (hB0 : B ≤ w.heap.size) (h : strssE.rd w B [v] l) (hl : l.length ≤ 1000000) (hm : ∀ x, x ∈ l → x.length ≤ 1000000) :
    Calls Tryd.prog 27 #[v] w (Makes strssE id l w) := by
  obtain ⟨a, cap, rfl, l1, l2, -, e4⟩ := rd_slice1 rfl h
  obtain ⟨n, hn⟩ : ∃ n, n = l.length := ⟨_, rfl⟩
  rw [← hn] at l1 e4 hl ⊢
  have HN := Lib.hid hn
  have E4 := Lib.hid e4
  have HM := Lib.hid hm
  clear h e4 hn hm
  have S := ((Star.nil w).alloc (cs := #[]) (ty := 47)).lit0 (α := List ByteArray) (E := strsE)
  go_enter Tryd.func27, Tryd.ntmps27
  go_wp2
  generalize hW : w.alloc _ = w0 at S ⊢
  clear hW
  go_loopw [3, 4] (fun vs s wr => ∃ k : Nat, ∃ vl, k ≤ n ∧ vs = vl ∧ s = .int .i64 k ∧ Star w wr [oE strssE [vl] (l.take k)]) (fun _ s _ => n - (intOf s).toNat)
  case atStart => exact ⟨0, _, by omega, rfl, rfl, S⟩
  case round =>
    clear S
    obtain ⟨k, vl, hk, rfl, rfl, S⟩ := hrel
    obtain ⟨la, ln, lc, rfl⟩ := S.slc 0 rfl
    by_cases hlt : k < n
    case neg =>
      obtain rfl : k = n := by omega
      have ht : l.take k = l := List.take_of_length_le (by rw [HN.out]; exact Nat.le_refl _)
      rw [ht] at S
      clear ht
      go_wp2
      go_ret
      exact S.done1
    obtain ⟨b, o, vk, rfl, -, hc, hr⟩ := E4.out k hlt
    have g1 := fun o' => ((S.below.alloc S.below.size o').cell (World.block_lt_of_cell? w _ hc)).trans hc
    have hlk : k < l.length := by rw [← HN.out]; exact hlt
    have hget : l[k]?.getD default = l[k] := by simp [List.getElem?_eq_getElem hlk]
    rw [hget] at hr
    have hlen : l[k].length ≤ 1000000 := HM.out _ (List.getElem_mem hlk)
    have htk := List.take_succ_eq_append_getElem hlk
    obtain ⟨row, hrow⟩ : ∃ r, r = l[k] := ⟨_, rfl⟩
    rw [← hrow] at hr hlen htk
    have R := Lib.hid hr
    have HT := Lib.hid htk
    obtain ⟨ra, rn, rc, rfl⟩ := rd_slice hr
    clear hc hr hget htk hrow
    have hll : (l.take k).length ≤ 1000000000000 := Nat.le_trans (List.length_take_le _ _) (by omega)
    have SA := (S.alloc (cs := #[]) (ty := 9)).lit0 (α := ByteArray) (E := strE)
    obtain ⟨css, fys, e1, e2, e3⟩ := src_strs (strsE.rd_of (SA.below.mono hB0) R.out)
    go_wp2_with (first
      | (at_builtin
         refine st1_StringSS SC rfl rfl rfl rfl cell_a1 (one_mem rfl) hll ?_
         intro ua un uc w3 S3)
      | (at_builtin
         refine stS_StringS (ys := row) SA rfl rfl rfl e1 e2 e3 (by simp; omega) ?_
         intro ta tn tc w2 S2
         have SC := (S2.alloc (cs := #[.slice ta tn tc]) (ty := 47)).sel [2, 1]))
    rw [List.nil_append] at S3
    go_roundw
    case rel => exact ⟨k + 1, _, by omega, rfl, by go_num, by rw [HT.out]; exact S3⟩
    case measure => simp [intOf]; omega

end Go.Proofs.YtnkhgfdlehhjmaaDoor

/-
  Contracts of the library, laid at this program (by a program of this claim's own, layn.py, after the kit's own laying).
-/
namespace Go.Proofs
open Go.Shelf
def Tryd.lays160_ren : Go.Shelf.Ren := ⟨fun | 119 => 114 | 120 => 108 | 137 => 113 | 151 => 103 | 152 => 107 | 160 => 78 | 197 => 102 | 217 => 122 | 224 => 115 | 225 => 116 | 227 => 92 | 228 => 101 | 231 => 90 | 232 => 91 | 233 => 93 | 234 => 94 | 235 => 95 | 236 => 96 | 260 => 106 | 266 => 125 | 271 => 104 | n => n, fun | 0 => 0 | 3 => 3 | 4 => 4 | 5 => 5 | 9 => 9 | 21 => 21 | 46 => 109 | 105 => 132 | 116 => 118 | 117 => 119 | 119 => 141 | 124 => 122 | 138 => 143 | 139 => 144 | n => n, fun | 3 => 0 | 4 => 1 | n => n⟩
theorem Tryd.lays160 : Go.Proofs.Lays.n160 Tryd.prog Tryd.lays160_ren := {
  mixed := by kernel_rfl
  f119 := Tryd.func114.trans (congrArg some (by kernel_rfl))
  f120 := Tryd.func108.trans (congrArg some (by kernel_rfl))
  f137 := Tryd.func113.trans (congrArg some (by kernel_rfl))
  f151 := Tryd.func103.trans (congrArg some (by kernel_rfl))
  f152 := Tryd.func107.trans (congrArg some (by kernel_rfl))
  f160 := Tryd.func78.trans (congrArg some (by kernel_rfl))
  f197 := Tryd.func102.trans (congrArg some (by kernel_rfl))
  f217 := Tryd.func122.trans (congrArg some (by kernel_rfl))
  f224 := Tryd.func115.trans (congrArg some (by kernel_rfl))
  f225 := Tryd.func116.trans (congrArg some (by kernel_rfl))
  f227 := Tryd.func92.trans (congrArg some (by kernel_rfl))
  f228 := Tryd.func101.trans (congrArg some (by kernel_rfl))
  f231 := Tryd.func90.trans (congrArg some (by kernel_rfl))
  f232 := Tryd.func91.trans (congrArg some (by kernel_rfl))
  f233 := Tryd.func93.trans (congrArg some (by kernel_rfl))
  f234 := Tryd.func94.trans (congrArg some (by kernel_rfl))
  f235 := Tryd.func95.trans (congrArg some (by kernel_rfl))
  f236 := Tryd.func96.trans (congrArg some (by kernel_rfl))
  f260 := Tryd.func106.trans (congrArg some (by kernel_rfl))
  f266 := Tryd.func125.trans (congrArg some (by kernel_rfl))
  f271 := Tryd.func104.trans (congrArg some (by kernel_rfl))
  t0 := Tryd.underlying0
  a0 := Tryd.isAgg0
  z0 := Tryd.sizeOf0
  v0 := Tryd.zeroValue0
  t3 := Tryd.underlying3
  a3 := Tryd.isAgg3
  z3 := Tryd.sizeOf3
  v3 := Tryd.zeroValue3
  t4 := Tryd.underlying4
  a4 := Tryd.isAgg4
  z4 := Tryd.sizeOf4
  v4 := Tryd.zeroValue4
  t5 := Tryd.underlying5
  a5 := Tryd.isAgg5
  z5 := Tryd.sizeOf5
  v5 := Tryd.zeroValue5
  t9 := Tryd.underlying9
  a9 := Tryd.isAgg9
  z9 := Tryd.sizeOf9
  v9 := Tryd.zeroValue9
  t21 := Tryd.underlying21
  a21 := Tryd.isAgg21
  z21 := Tryd.sizeOf21
  v21 := Tryd.zeroValue21
  t46 := Tryd.underlying109
  a46 := Tryd.isAgg109
  z46 := Tryd.sizeOf109
  v46 := Tryd.zeroValue109
  t105 := Tryd.underlying132
  a105 := Tryd.isAgg132
  z105 := Tryd.sizeOf132
  v105 := Tryd.zeroValue132
  t116 := Tryd.underlying118
  a116 := Tryd.isAgg118
  z116 := Tryd.sizeOf118
  t117 := Tryd.underlying119
  a117 := Tryd.isAgg119
  z117 := Tryd.sizeOf119
  v117 := Tryd.zeroValue119
  t119 := Tryd.underlying141
  a119 := Tryd.isAgg141
  z119 := Tryd.sizeOf141
  t124 := Tryd.underlying122
  a124 := Tryd.isAgg122
  z124 := Tryd.sizeOf122
  v124 := Tryd.zeroValue122
  t138 := Tryd.underlying143
  a138 := Tryd.isAgg143
  z138 := Tryd.sizeOf143
  v138 := Tryd.zeroValue143
  t139 := Tryd.underlying144
  a139 := Tryd.isAgg144
  z139 := Tryd.sizeOf144
  v139 := Tryd.zeroValue144
  g3 := by kernel_rfl
  g4 := by kernel_rfl }
end Go.Proofs
