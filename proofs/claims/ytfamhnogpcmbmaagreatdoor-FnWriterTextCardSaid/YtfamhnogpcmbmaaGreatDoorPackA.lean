/-
  What this claim leans on: values in cells, contracts of functions (29 texts of this claim's own, laid together).
-/
import Derived.WalkKit
import Derived.ProofKit
import Derived.Deep.Slices
import Derived.Laws.AppendOwn
import Derived.Deep.AppendSrc
import Derived.Deep.QuietTactic
import Derived.BigQuiet
import Derived.Deep.RegionWith
import Derived.Lib.Hide
import Derived.WalkSmall
import Derived.StillTailTactics
import Derived.Deep.RegionHeld3
import Derived.WalkSpells
import Derived.WalkLawsBesides
import Derived.Test.YtfamhnogpcmbmaaGreatDoorRows
import Derived.Laws.BitsLemmas
import Derived.Shelf.Strings.SlTrimAscii
import Derived.Test.YtfamhnogpcmbmaaGreatDoorProg
import Derived.PlainAid
/-
  Plain definitions and lemmas: how lists, structs, numbers and strings lie in Go memory ('rd': they can be read; 'ow': they lie in blocks of their own). No program is named here.
-/
namespace Go.Proofs.YtfamhnogpcmbmaaGreatDoor
open Go.RowKit

/-- How values of a Lean type lie in cells. 'rd w B cs a': the cells 'cs' stand for 'a', all memory that they lead to lies in blocks below B. 'ow w cs a fp': they stand for 'a' and lead to the blocks 'fp', each of which is a row of its own. -/
structure Enc (α : Type) where
  size : Nat
  rd : World → Nat → List Value → α → Prop
  ow : World → List Value → α → List Nat → Prop
  rd_len : ∀ {w B cs a}, rd w B cs a → cs.length = size
  rd_below : ∀ {w w' : World} {B cs a}, (∀ p : Addr, p.block < B → w'.cell? p = w.cell? p) → rd w B cs a → rd w' B cs a
  rd_mono : ∀ {w B B' cs a}, B ≤ B' → rd w B cs a → rd w B' cs a
  ow_rd : ∀ {w cs a fp B}, (∀ b, b ∈ fp → b < B) → ow w cs a fp → rd w B cs a
  ow_lt : ∀ {w cs a fp}, ow w cs a fp → ∀ b, b ∈ fp → b < w.heap.size
  ow_frame : ∀ {w w' : World} {cs a fp}, (∀ b, b ∈ fp → w'.heap[b]? = w.heap[b]?) → ow w cs a fp → ow w' cs a fp

/-- A type of one cell whose values are written out. -/
def cellE {α : Type} (f : α → Value) : Enc α where
  size := 1
  rd _ _ cs a := cs = [f a]
  ow _ cs a fp := cs = [f a] ∧ fp = []
  rd_len h := by rw [h]; rfl
  rd_below _ h := h
  rd_mono _ h := h
  ow_rd _ h := h.1
  ow_lt h b hb := by rw [h.2] at hb; cases hb
  ow_frame _ h := h

def intE : Enc Int where
  size := 1
  rd _ _ cs a := cs = [.int .i64 a] ∧ -9223372036854775808 ≤ a ∧ a ≤ 9223372036854775807
  ow _ cs a fp := (cs = [.int .i64 a] ∧ -9223372036854775808 ≤ a ∧ a ≤ 9223372036854775807) ∧ fp = []
  rd_len h := by rw [h.1]; rfl
  rd_below _ h := h
  rd_mono _ h := h
  ow_rd _ h := h.1
  ow_lt h b hb := by rw [h.2] at hb; cases hb
  ow_frame _ h := h

def boolE : Enc Bool := cellE .bool

def strE : Enc ByteArray where
  size := 1
  rd _ _ cs a := cs = [.string a] ∧ a.size ≤ maxLen
  ow _ cs a fp := (cs = [.string a] ∧ a.size ≤ maxLen) ∧ fp = []
  rd_len h := by rw [h.1]; rfl
  rd_below _ h := h
  rd_mono _ h := h
  ow_rd _ h := h.1
  ow_lt h b hb := by rw [h.2] at hb; cases hb
  ow_frame _ h := h

/-- Two types side by side: a struct. -/
def pairE {α β : Type} (E : Enc α) (F : Enc β) : Enc (α × β) where
  size := E.size + F.size
  rd w B cs a := ∃ c1 c2, cs = c1 ++ c2 ∧ E.rd w B c1 a.1 ∧ F.rd w B c2 a.2
  ow w cs a fp := ∃ c1 c2 f1 f2, cs = c1 ++ c2 ∧ fp = f1 ++ f2 ∧ E.ow w c1 a.1 f1 ∧ F.ow w c2 a.2 f2
  rd_len := by rintro w B cs a ⟨c1, c2, rfl, h1, h2⟩; rw [List.length_append, E.rd_len h1, F.rd_len h2]
  rd_below := by rintro w w' B cs a h ⟨c1, c2, rfl, h1, h2⟩; exact ⟨c1, c2, rfl, E.rd_below h h1, F.rd_below h h2⟩
  rd_mono := by rintro w B B' cs a h ⟨c1, c2, rfl, h1, h2⟩; exact ⟨c1, c2, rfl, E.rd_mono h h1, F.rd_mono h h2⟩
  ow_rd := by
    rintro w cs a fp B hB ⟨c1, c2, f1, f2, rfl, rfl, h1, h2⟩
    exact ⟨c1, c2, rfl, E.ow_rd (fun b hb => hB b (by simp [hb])) h1, F.ow_rd (fun b hb => hB b (by simp [hb])) h2⟩
  ow_lt := by
    rintro w cs a fp ⟨c1, c2, f1, f2, rfl, rfl, h1, h2⟩ b hb
    rcases List.mem_append.1 hb with h | h
    · exact E.ow_lt h1 b h
    · exact F.ow_lt h2 b h
  ow_frame := by
    rintro w w' cs a fp h ⟨c1, c2, f1, f2, rfl, rfl, h1, h2⟩
    exact ⟨c1, c2, f1, f2, rfl, rfl, E.ow_frame (fun b hb => h b (by simp [hb])) h1, F.ow_frame (fun b hb => h b (by simp [hb])) h2⟩

/-- A type seen through a function: a Lean structure as a product. -/
def viaE {α β : Type} (E : Enc β) (f : α → β) : Enc α where
  size := E.size
  rd w B cs a := E.rd w B cs (f a)
  ow w cs a fp := E.ow w cs (f a) fp
  rd_len h := E.rd_len h
  rd_below h := E.rd_below h
  rd_mono h := E.rd_mono h
  ow_rd h := E.ow_rd h
  ow_lt h := E.ow_lt h
  ow_frame h := E.ow_frame h

/-- All elements of a list lie in their cells, each with blocks of its own. -/
inductive OwAll {α : Type} (E : Enc α) (w : World) : List α → List (List Value) → List (List Nat) → Prop
  | nil : OwAll E w [] [] []
  | cons {a l cs xss f fps} : E.ow w cs a f → OwAll E w l xss fps → OwAll E w (a :: l) (cs :: xss) (f :: fps)

theorem OwAll.frame {α : Type} {E : Enc α} {w w' : World} {l : List α} {xss : List (List Value)} {fps : List (List Nat)} (h : OwAll E w l xss fps) (hf : ∀ b, b ∈ fps.flatten → w'.heap[b]? = w.heap[b]?) : OwAll E w' l xss fps := by
  induction h with
  | nil => exact .nil
  | cons h1 h2 ih => exact .cons (E.ow_frame (fun b hb => hf b (by simp [hb])) h1) (ih (fun b hb => hf b (by rw [List.flatten_cons]; exact List.mem_append_right _ hb)))

theorem OwAll.lt {α : Type} {E : Enc α} {w : World} {l : List α} {xss : List (List Value)} {fps : List (List Nat)} (h : OwAll E w l xss fps) : ∀ b, b ∈ fps.flatten → b < w.heap.size := by
  induction h with
  | nil => intro b hb; simp at hb
  | cons h1 h2 ih =>
    intro b hb
    rw [List.flatten_cons] at hb
    rcases List.mem_append.1 hb with h | h
    · exact E.ow_lt h1 b h
    · exact ih b h

theorem OwAll.len {α : Type} {E : Enc α} {w : World} {l : List α} {xss : List (List Value)} {fps : List (List Nat)} (h : OwAll E w l xss fps) : xss.length = l.length ∧ fps.length = l.length := by
  induction h with
  | nil => exact ⟨rfl, rfl⟩
  | cons h1 h2 ih => simp [ih.1, ih.2]

theorem OwAll.append {α : Type} {E : Enc α} {w : World} {l : List α} {xss : List (List Value)} {fps : List (List Nat)} (h : OwAll E w l xss fps) {l' : List α} {xss' : List (List Value)} {fps' : List (List Nat)} (h' : OwAll E w l' xss' fps') :
    OwAll E w (l ++ l') (xss ++ xss') (fps ++ fps') := by
  induction h with
  | nil => exact h'
  | cons h1 h2 ih => exact .cons h1 ih

theorem OwAll.one {α : Type} {E : Enc α} {w : World} {a : α} {cs : List Value} {f : List Nat} (h : E.ow w cs a f) : OwAll E w [a] [cs] [f] := .cons h .nil

theorem OwAll.rdAt {α : Type} {E : Enc α} {w : World} {l : List α} {xss : List (List Value)} {fps : List (List Nat)} {B : Nat} (h : OwAll E w l xss fps) (hB : ∀ b, b ∈ fps.flatten → b < B) :
    ∀ i x, l[i]? = some x → ∃ xs f, xss[i]? = some xs ∧ fps[i]? = some f ∧ E.ow w xs x f ∧ E.rd w B xs x ∧ ∀ j v, xs[j]? = some v → xss.flatten[i * E.size + j]? = some v := by
  induction h with
  | nil => intro i x hx; simp at hx
  | @cons a l cs xss f fps h1 h2 ih =>
    intro i x hx
    have hl : cs.length = E.size := E.rd_len (E.ow_rd (B := B) (fun b hb => hB b (by simp [hb])) h1)
    cases i with
    | zero =>
      simp only [List.getElem?_cons_zero, Option.some.injEq] at hx
      subst hx
      refine ⟨cs, f, rfl, rfl, h1, E.ow_rd (fun b hb => hB b (by simp [hb])) h1, fun j v hv => ?_⟩
      rw [List.flatten_cons, Nat.zero_mul, Nat.zero_add, List.getElem?_append_left]
      · exact hv
      · exact (List.getElem?_eq_some_iff.1 hv).1
    | succ i =>
      simp only [List.getElem?_cons_succ] at hx
      obtain ⟨xs, g, e1, e2, e3, e4, e5⟩ := ih (fun b hb => hB b (by rw [List.flatten_cons]; exact List.mem_append_right _ hb)) i x hx
      refine ⟨xs, g, by simpa using e1, by simpa using e2, e3, e4, fun j v hv => ?_⟩
      rw [List.flatten_cons, List.getElem?_append_right (by rw [hl, Nat.succ_mul]; omega), hl, show (i + 1) * E.size + j - E.size = i * E.size + j from by rw [Nat.succ_mul]; omega]
      exact e5 j v hv

theorem OwAll.flat {α : Type} {E : Enc α} {w : World} {l : List α} {xss : List (List Value)} {fps : List (List Nat)} (h : OwAll E w l xss fps) : xss.flatten.length = l.length * E.size := by
  induction h with
  | nil => simp
  | cons h1 h2 ih =>
    rw [List.flatten_cons, List.length_append, ih, E.rd_len (E.ow_rd (B := w.heap.size) (E.ow_lt h1) h1), List.length_cons, Nat.succ_mul]
    omega

/-- A slice. 'ty': the number of the element's type. -/
def sliceE {α : Type} (E : Enc α) (ty : TypeId) : Enc (List α) where
  size := 1
  rd w B cs l := ∃ a cap, cs = [.slice a l.length cap] ∧ l.length ≤ cap ∧ cap ≤ maxLen ∧ (a = none → cap = 0) ∧
    ∀ i x, l[i]? = some x → ∃ b o xs, a = some ⟨b, o, none⟩ ∧ b < B ∧ E.rd w B xs x ∧ ∀ j v, xs[j]? = some v → w.cell? ⟨b, o + (i * E.size + j), none⟩ = some v
  ow w cs l fp := ∃ v xss fps, cs = [v] ∧ OwAll E w l xss fps ∧ w.ownsRow 0 ty E.size v l.length xss.flatten ∧ fp = v.ownBlock.toList ++ fps.flatten
  rd_len := by rintro w B cs l ⟨a, cap, rfl, _⟩; rfl
  rd_below := by
    rintro w w' B cs l h ⟨a, cap, rfl, h1, h2, h3, h4⟩
    refine ⟨a, cap, rfl, h1, h2, h3, fun i x hx => ?_⟩
    obtain ⟨b, o, xs, e1, e2, e3, e4⟩ := h4 i x hx
    exact ⟨b, o, xs, e1, e2, E.rd_below h e3, fun j v hv => by rw [h _ e2]; exact e4 j v hv⟩
  rd_mono := by
    rintro w B B' cs l h ⟨a, cap, rfl, h1, h2, h3, h4⟩
    refine ⟨a, cap, rfl, h1, h2, h3, fun i x hx => ?_⟩
    obtain ⟨b, o, xs, e1, e2, e3, e4⟩ := h4 i x hx
    exact ⟨b, o, xs, e1, by omega, E.rd_mono h e3, e4⟩
  ow_rd := by
    rintro w cs l fp B hB ⟨v, xss, fps, rfl, h1, h2, rfl⟩
    obtain ⟨hx, h2⟩ := h2
    rcases h2 with ⟨rfl, hn⟩ | ⟨g, cap, cur, rfl, hg, hh, hc, hm, hs, ht⟩
    · have hl : l = [] := List.eq_nil_of_length_eq_zero hn
      subst hl
      exact ⟨none, 0, rfl, Nat.le_refl _, Nat.zero_le _, fun _ => rfl, fun i x hx => by simp at hx⟩
    · refine ⟨some ⟨g, 0, none⟩, cap, rfl, hc, hm, (fun h => by cases h), fun i x hxi => ?_⟩
      obtain ⟨xs, f, e1, e2, e3, e4, e5⟩ := h1.rdAt (B := B) (fun b hb => hB b (List.mem_append_right _ hb)) i x hxi
      refine ⟨g, 0, xs, rfl, hB g (by simp [Value.ownBlock]), e4, fun j v hv => ?_⟩
      have hf := e5 j v hv
      rw [← ht, List.getElem?_take] at hf
      split at hf
      · rw [Nat.zero_add]
        unfold World.cell?
        rw [hh]
        simpa using hf
      · cases hf
  ow_lt := by
    rintro w cs l fp ⟨v, xss, fps, rfl, h1, h2, rfl⟩ b hb
    rcases List.mem_append.1 hb with h | h
    · exact (h2.lt b (by simpa using h)).2
    · exact h1.lt b h
  ow_frame := by
    rintro w w' cs l fp h ⟨v, xss, fps, rfl, h1, h2, rfl⟩
    refine ⟨v, xss, fps, rfl, h1.frame (fun b hb => h b (List.mem_append_right _ hb)), ⟨h2.1, ?_⟩, rfl⟩
    rcases h2.2 with hn | ⟨g, cap, cur, rfl, hg, hh, r⟩
    · exact .inl hn
    · exact .inr ⟨g, cap, cur, rfl, hg, by rw [h g (by simp [Value.ownBlock])]; exact hh, r⟩

/-- Below B all cells are as they were. -/
theorem Enc.rd_of {α : Type} (E : Enc α) {w w' : World} {B : Nat} {cs : List Value} {a : α} (hb : Below B w w') (h : E.rd w B cs a) : E.rd w' B cs a :=
  E.rd_below (fun _ hp => hb.cell hp) h

theorem Enc.ow_of {α : Type} (E : Enc α) {w w' : World} {cs : List Value} {a : α} {fp : List Nat} (hb : Below w.heap.size w w') (h : E.ow w cs a fp) : E.ow w' cs a fp :=
  E.ow_frame (fun b hm => hb.block b (E.ow_lt h b hm)) h

theorem Enc.rd_ow {α : Type} (E : Enc α) {w : World} {cs : List Value} {a : α} {fp : List Nat} (h : E.ow w cs a fp) : E.rd w w.heap.size cs a := E.ow_rd (E.ow_lt h) h

end Go.Proofs.YtfamhnogpcmbmaaGreatDoor

/-
  Plain lemmas: what 'Enc.rd' says of a slice, spelled as a walk reads it (one cell an element, or several), and small words for contracts. No program is named here.
-/
namespace Go.Proofs.YtfamhnogpcmbmaaGreatDoor
open Go.RowKit

section
variable {α : Type} {E : Enc α} {ty : TypeId} {w : World} {B : Nat} {v : Value} {l : List α}

/-- A slice whose elements are one cell each. -/
theorem rd_slice1 [Inhabited α] (hs : E.size = 1) (h : (sliceE E ty).rd w B [v] l) :
    ∃ a cap, v = .slice a l.length cap ∧ l.length ≤ cap ∧ cap ≤ 9223372036854775807 ∧ (a = none → cap = 0) ∧
      ∀ k, k < l.length → ∃ b o vk, a = some ⟨b, o, none⟩ ∧ b < B ∧ w.cell? ⟨b, o + k, none⟩ = some vk ∧ E.rd w B [vk] (l[k]?.getD default) := by
  obtain ⟨a, cap, hv, h1, h2, h3, h4⟩ := h
  obtain rfl : v = .slice a l.length cap := by simpa using hv
  refine ⟨a, cap, rfl, h1, by simpa [maxLen] using h2, h3, fun k hk => ?_⟩
  have hx : l[k]? = some (l[k]?.getD default) := by simp [List.getElem?_eq_getElem hk]
  obtain ⟨b, o, xs, e1, e2, e3, e4⟩ := h4 k _ hx
  have hl := E.rd_len e3
  rw [hs] at hl
  match xs, hl with
  | [vk], _ =>
    have := e4 0 vk rfl
    rw [hs] at this
    exact ⟨b, o, vk, e1, e2, by simpa using this, e3⟩

theorem rd_slice (h : (sliceE E ty).rd w B [v] l) : ∃ a n c, v = .slice a n c := by
  obtain ⟨a, cap, hv, _⟩ := h
  exact ⟨a, _, cap, by simpa using hv⟩

theorem rd_ints {l : List Int} (h : (sliceE intE ty).rd w B [v] l) :
    ∃ a cap, v = .slice a l.length cap ∧ l.length ≤ cap ∧ cap ≤ 9223372036854775807 ∧ (a = none → cap = 0) ∧
      ∀ k, k < l.length → ∃ b o, a = some ⟨b, o, none⟩ ∧ b < B ∧ w.cell? ⟨b, o + k, none⟩ = some (.int .i64 (l[k]?.getD 0)) ∧ -9223372036854775808 ≤ l[k]?.getD 0 ∧ l[k]?.getD 0 ≤ 9223372036854775807 := by
  obtain ⟨a, cap, h1, h2, h3, h4, h5⟩ := rd_slice1 rfl h
  refine ⟨a, cap, h1, h2, h3, h4, fun k hk => ?_⟩
  obtain ⟨b, o, vk, e1, e2, e3, e4⟩ := h5 k hk
  obtain ⟨e5, e6⟩ := e4
  simp only [List.cons.injEq, and_true] at e5
  subst e5
  exact ⟨b, o, e1, e2, e3, e6⟩

theorem rd_bools {l : List Bool} (h : (sliceE boolE ty).rd w B [v] l) :
    ∃ a cap, v = .slice a l.length cap ∧ l.length ≤ cap ∧ cap ≤ 9223372036854775807 ∧ (a = none → cap = 0) ∧
      ∀ k, k < l.length → ∃ b o, a = some ⟨b, o, none⟩ ∧ b < B ∧ w.cell? ⟨b, o + k, none⟩ = some (.bool (l[k]?.getD false)) := by
  obtain ⟨a, cap, h1, h2, h3, h4, h5⟩ := rd_slice1 rfl h
  refine ⟨a, cap, h1, h2, h3, h4, fun k hk => ?_⟩
  obtain ⟨b, o, vk, e1, e2, e3, e4⟩ := h5 k hk
  have e5 : [vk] = [Value.bool (l[k]?.getD default)] := e4
  simp only [List.cons.injEq, and_true] at e5
  subst e5
  exact ⟨b, o, e1, e2, e3⟩

theorem rd_strs {l : List ByteArray} (h : (sliceE strE ty).rd w B [v] l) :
    ∃ a cap, v = .slice a l.length cap ∧ l.length ≤ cap ∧ cap ≤ 9223372036854775807 ∧ (a = none → cap = 0) ∧
      ∀ k, k < l.length → ∃ b o, a = some ⟨b, o, none⟩ ∧ b < B ∧ w.cell? ⟨b, o + k, none⟩ = some (.string (l[k]?.getD ByteArray.empty)) ∧ (l[k]?.getD ByteArray.empty).size ≤ 9223372036854775807 := by
  obtain ⟨a, cap, h1, h2, h3, h4, h5⟩ := rd_slice1 (E := strE) rfl h
  refine ⟨a, cap, h1, h2, h3, h4, fun k hk => ?_⟩
  obtain ⟨b, o, vk, e1, e2, e3, e4⟩ := h5 k hk
  obtain ⟨e5, e6⟩ := e4
  simp only [List.cons.injEq, and_true] at e5
  subst e5
  exact ⟨b, o, e1, e2, e3, e6⟩
end

theorem len_le {α : Type} {E : Enc α} {ty : TypeId} {w : World} {B : Nat} {cs : List Value} {l : List α} (h : (sliceE E ty).rd w B cs l) : l.length ≤ 9223372036854775807 := by
  obtain ⟨a, cap, _, h1, h2, _⟩ := h
  simp [maxLen] at h2
  omega

/-- A call that only reads: it hands back v; memory that was there is as it was. -/
def Gives (v : Value) (w : World) (e : Ending) (w' : World) : Prop := e = .returned v ∧ Below w.heap.size w w'

/-- A call that hands back v and leaves the world as it was. -/
def Keeps (v : Value) (w : World) (e : Ending) (w' : World) : Prop := e = .returned v ∧ w = w'

/-- A call that hands back a value of one cell, of new memory ('f': the value among the results). -/
def Makes {α : Type} (E : Enc α) (f : Value → Value) (a : α) (w : World) (e : Ending) (w' : World) : Prop :=
  ∃ v fp, e = .returned (f v) ∧ E.ow w' [v] a fp ∧ fp.Nodup ∧ (∀ b, b ∈ fp → w.heap.size ≤ b) ∧ Below w.heap.size w w'

/-- The same of a struct. -/
def MakesS {α : Type} (E : Enc α) (f : Value → Value) (a : α) (w : World) (e : Ending) (w' : World) : Prop :=
  ∃ cs fp, e = .returned (f (.agg cs.toArray)) ∧ E.ow w' cs a fp ∧ fp.Nodup ∧ (∀ b, b ∈ fp → w.heap.size ≤ b) ∧ Below w.heap.size w w'

/-- Every block but those of a list is as it was. -/
structure But (fp : List Nat) (w w' : World) : Prop where
  os : w'.os = w.os
  tape : w'.tape = w.tape
  output : w'.output = w.output
  size : w.heap.size ≤ w'.heap.size
  block : ∀ k, k < w.heap.size → k ∉ fp → w'.heap[k]? = w.heap[k]?

theorem But.below {fp : List Nat} {w w' : World} {B : Nat} (h : But fp w w') (hB : ∀ b, b ∈ fp → B ≤ b) (hs : B ≤ w.heap.size) : Below B w w' :=
  ⟨h.os, h.tape, h.output, h.size, fun k hk => h.block k (by omega) (fun hm => by have := hB k hm; omega)⟩

theorem ownsRow_zero {w : World} {base : Nat} {e : TypeId} {size : Nat} {v : Value} {n : Nat} {xs : List Value} (h : w.ownsRow base e size v n xs) : w.ownsRow 0 e size v n xs := by
  refine ⟨h.1, ?_⟩
  rcases h.2 with h | ⟨g, cap, cur, h1, _, h2⟩
  · exact .inl h
  · exact .inr ⟨g, cap, cur, h1, Nat.zero_le _, h2⟩

theorem flat_ones (vs : List Value) : (vs.map fun v => [v]).flatten = vs := by
  induction vs with
  | nil => rfl
  | cons v vs ih => simp [ih]

/-- A slice of elements of one cell that lead nowhere. -/
theorem ow_flat {α : Type} {E : Enc α} {ty : TypeId} {w : World} {v : Value} {l : List α} {base : Nat} (f : α → Value) (hE : E.size = 1) (hf : ∀ x, x ∈ l → E.ow w [f x] x []) (h : w.ownsRow base ty 1 v l.length (l.map f)) :
    (sliceE E ty).ow w [v] l v.ownBlock.toList := by
  refine ⟨v, (l.map f).map fun v => [v], l.map fun _ => [], rfl, ?_, ?_, ?_⟩
  · clear h
    induction l with
    | nil => exact .nil
    | cons a l ih => exact .cons (hf a (by simp)) (ih fun x hx => hf x (by simp [hx]))
  · rw [hE, flat_ones]; exact ownsRow_zero h
  · have : (l.map fun _ => ([] : List Nat)).flatten = [] := by simp
    rw [this, List.append_nil]

/-- A slice of elements of one cell. -/
theorem ow_ones {α : Type} {E : Enc α} {ty : TypeId} {w : World} {v : Value} {l : List α} {vs : List Value} {fps : List (List Nat)} {base : Nat} (hE : E.size = 1) (hf : OwAll E w l (vs.map fun v => [v]) fps)
    (h : w.ownsRow base ty 1 v l.length vs) : (sliceE E ty).ow w [v] l (v.ownBlock.toList ++ fps.flatten) :=
  ⟨v, vs.map fun v => [v], fps, rfl, hf, by rw [hE, flat_ones]; exact ownsRow_zero h, rfl⟩

theorem ownsRow_cells {w : World} {base : Nat} {e : TypeId} {size : Nat} {v : Value} {n : Nat} {xs : List Value} (h : w.ownsRow base e size v n xs) : v.cells.toList = [v] := by
  rcases h.2 with ⟨rfl, _⟩ | ⟨g, cap, cur, rfl, _⟩ <;> rfl

theorem ow_shape {α : Type} {E : Enc α} {ty : TypeId} {w : World} {v : Value} {l : List α} {fp : List Nat} (h : (sliceE E ty).ow w [v] l fp) : ∃ a c, v = .slice a l.length c := by
  obtain ⟨v', xss, fps, hv, _, h2, _⟩ := h
  obtain rfl : v = v' := by simpa using hv
  rcases h2.2 with ⟨rfl, hn⟩ | ⟨g, cap, cur, rfl, _⟩
  · exact ⟨none, 0, by rw [hn]⟩
  · exact ⟨_, _, rfl⟩

theorem ow_slice {α : Type} {E : Enc α} {ty : TypeId} {w : World} {v : Value} {l : List α} {fp : List Nat} (h : (sliceE E ty).ow w [v] l fp) : ∃ a n c, v = .slice a n c := by
  obtain ⟨a, c, h⟩ := ow_shape h
  exact ⟨a, _, c, h⟩

theorem get_some {α : Type} (d : α) {l : List α} {k : Nat} (h : k < l.length) : l[k]? = some (l[k]?.getD d) := by simp [List.getElem?_eq_getElem h]

theorem nodup_option (o : Option Nat) : o.toList.Nodup := by cases o <;> simp

/-- The end of a walk that hands back a slice of its own, of elements of one cell that lead nowhere. -/
theorem makes_flat {α : Type} {E : Enc α} {ty : TypeId} {w wr : World} {v : Value} {l : List α} {g : Nat} (f : α → Value) (hE : E.size = 1) (hf : ∀ x, x ∈ l → E.ow wr [f x] x []) (h : wr.ownsRow g ty 1 v l.length (l.map f))
    (hB : Below g w wr) (hg : g = w.heap.size) : Makes (sliceE E ty) id l w (.returned v) wr := by
  subst hg
  refine ⟨v, v.ownBlock.toList, rfl, ?_, nodup_option _, ?_, hB⟩
  · exact ow_flat f hE hf h
  · intro b hb
    exact (h.lt b (by simpa using hb)).1

/-- make([]T, n), n one of the walk's numbers, T of one cell. -/
theorem make_run {P : Program} {t e : TypeId} {i : TypeInfo} {z : Value} (ht : P.underlying t = some (.slice e)) (hi : P.info? e = some i) (hz : i.zero = some z) (hs : i.size = 1) (n : Nat) (hb : i.bytes * n ≤ 281474976710656) (hn : n ≤ 9223372036854775807) (w : World) :
    (Instr.makeSlice t (.int .i64 (n : Int)) (.int .i64 (n : Int))).run P w = .ok (.slice (some ⟨w.heap.size, 0, none⟩) n n) (w.alloc (.cells (madeCells z.cells n) e)) := by
  have hb' : (i.bytes : Int) * (n : Int) ≤ 281474976710656 := by
    have h : ((i.bytes * n : Nat) : Int) ≤ 281474976710656 := by omega
    rwa [Int.natCast_mul] at h
  have := run_make w t e i z ht hi hz .i64 .i64 n n (by omega) (by omega) hb' (by omega)
  rw [this]
  simp [hs]

theorem made_owns {w : World} {ty : TypeId} (z : Value) (n : Nat) (hn : n ≤ maxLen) : (w.alloc (.cells (madeCells #[z] n) ty)).ownsRow w.heap.size ty 1 (.slice (some ⟨w.heap.size, 0, none⟩) n n) n (List.replicate n z) := by
  have := World.ownsRow_lit (e := ty) (size := 1) w (madeCells #[z] n) n (Nat.le_refl _) hn (by simp [size_madeCells])
  rwa [toList_madeCells_one] at this

theorem ownsRow_below {w w' : World} {base : Nat} {e : TypeId} {size : Nat} {v : Value} {n : Nat} {xs : List Value} (h : w.ownsRow base e size v n xs) (hb : Below w.heap.size w w') : w'.ownsRow base e size v n xs :=
  h.kept (row := none) ⟨hb.os, hb.tape, hb.output, hb.size, fun k hk _ => hb.block k hk⟩ (by cases hv : v.ownBlock <;> simp)

/-- A row of n cells of its own (block g), of which the first k have been filled, each with a value that leads to blocks of its own. -/
def Spine {α : Type} (E : Enc α) (ty : TypeId) (g n : Nat) (z : Value) (l : List α) (k : Nat) (w0 wr : World) : Prop :=
  ∃ vs fps, vs.length = k ∧ wr.ownsRow g ty 1 (.slice (some ⟨g, 0, none⟩) n n) n (vs ++ List.replicate (n - k) z) ∧ OwAll E wr (l.take k) (vs.map fun v => [v]) fps ∧ fps.flatten.Nodup ∧ (∀ b, b ∈ fps.flatten → g < b) ∧ Below g w0 wr

section
variable {α : Type} {E : Enc α} {ty : TypeId} {g n k : Nat} {z : Value} {l : List α} {w0 wr : World}

theorem Spine.start (h : wr.ownsRow g ty 1 (.slice (some ⟨g, 0, none⟩) n n) n (List.replicate n z)) (hB : Below g w0 wr) : Spine E ty g n z l 0 w0 wr :=
  ⟨[], [], rfl, by simpa using h, by simpa using OwAll.nil, by simp, by simp, hB⟩

theorem Spine.below (h : Spine E ty g n z l k w0 wr) : Below g w0 wr := by
  obtain ⟨vs, fps, _, _, _, _, _, h⟩ := h
  exact h

theorem Spine.lt (h : Spine E ty g n z l k w0 wr) : g < wr.heap.size := by
  obtain ⟨vs, fps, _, h, _⟩ := h
  exact (h.lt g rfl).2

theorem Spine.cell (h : Spine E ty g n z l k w0 wr) (hk : k < n) {w1 : World} (hb : Below wr.heap.size wr w1) : w1.cell? ⟨g, k, none⟩ = some z ∧ w1.frozen? ⟨g, k, none⟩ = false := by
  obtain ⟨vs, fps, hl, h, _⟩ := h
  have h1 := ownsRow_below h hb
  refine ⟨?_, h1.frozenAt k⟩
  rw [h1.cellAt k (by omega), List.getElem?_append_right (by omega), hl, Nat.sub_self, List.getElem?_replicate, if_pos (by omega)]

theorem Spine.step (h : Spine E ty g n z l k w0 wr) (hk : k < n) {w1 : World} (hb : Below wr.heap.size wr w1) {x : α} (hx : l[k]? = some x) {v : Value} {fp : List Nat} (ho : E.ow w1 [v] x fp) (hn : fp.Nodup)
    (hf : ∀ b, b ∈ fp → wr.heap.size ≤ b) : Spine E ty g n z l (k + 1) w0 (w1.setCell ⟨g, k, none⟩ v) := by
  have hgl := h.lt
  obtain ⟨vs, fps, hl, h1, h2, h3, h4, h5⟩ := h
  have hd : ∀ b, b ∈ fps.flatten → b < wr.heap.size := h2.lt
  refine ⟨vs ++ [v], fps ++ [fp], by simp [hl], ?_, ?_, ?_, ?_, ?_⟩
  · have := ((ownsRow_below h1 hb).stored k v).1
    have e : (vs ++ List.replicate (n - k) z).set k v = vs ++ [v] ++ List.replicate (n - (k + 1)) z := by
      rw [List.set_append_right _ _ (by omega), hl, Nat.sub_self, show n - k = (n - (k + 1)) + 1 from by omega, List.replicate_succ]
      simp
    rwa [e] at this
  · have hkl : k < l.length := (List.getElem?_eq_some_iff.1 hx).1
    have hx' : l[k] = x := (List.getElem?_eq_some_iff.1 hx).2
    rw [List.take_succ_eq_append_getElem hkl, hx', List.map_append]
    refine (h2.frame fun b hm => ?_).append (OwAll.one (E.ow_frame (fun b hm => ?_) ho))
    · have hne : b ≠ g := by have := h4 b hm; omega
      rw [Below.heap_setCell _ _ _ _ (by simpa using hne)]
      exact hb.block b (hd b hm)
    · have hne : b ≠ g := by have := hf b hm; omega
      rw [Below.heap_setCell _ _ _ _ (by simpa using hne)]
  · rw [List.flatten_append, List.nodup_append]
    refine ⟨h3, by simpa using hn, fun a ha b hb' e => ?_⟩
    have h6 := hd a ha
    have h7 := hf b (by simpa using hb')
    omega
  · intro b hm
    rw [List.flatten_append] at hm
    rcases List.mem_append.1 hm with hm | hm
    · exact h4 b hm
    · have := hf b (by simpa using hm)
      omega
  · exact (h5.trans (hb.mono (by omega))).setCell (Nat.le_refl _) _

theorem Spine.done (h : Spine E ty g n z l n w0 wr) (hE : E.size = 1) (hn : n = l.length) (hg : g = w0.heap.size) : Makes (sliceE E ty) id l w0 (.returned (.slice (some ⟨g, 0, none⟩) n n)) wr := by
  subst hn
  obtain ⟨vs, fps, hl, h1, h2, h3, h4, h5⟩ := h
  rw [List.take_length] at h2
  rw [Nat.sub_self, List.replicate_zero, List.append_nil] at h1
  refine ⟨_, g :: fps.flatten, rfl, ow_ones hE h2 h1, ?_, ?_, hg ▸ h5⟩
  · rw [List.nodup_cons]
    exact ⟨fun hm => by have := h4 g hm; omega, h3⟩
  · intro b hm
    rcases List.mem_cons.1 hm with rfl | hm
    · omega
    · have := h4 b hm
      omega
end

/-- Block b holds these cells, and may be written. -/
def Blk (w : World) (b : Nat) (cs : List Value) (ty : TypeId) : Prop := w.heap[b]? = some (.cells cs.toArray ty (0, 0))

section
variable {w w' : World} {b : Nat} {cs : List Value} {ty : TypeId}

theorem Blk.lt (h : Blk w b cs ty) : b < w.heap.size := (Array.getElem?_eq_some_iff.1 h).1
theorem Blk.new (w : World) (cs : Array Value) (ty : TypeId) : Blk (w.alloc (.cells cs ty)) w.heap.size cs.toList ty := by
  unfold Blk; rw [heap_alloc_new]
theorem Blk.alloc (h : Blk w b cs ty) (o : Obj) : Blk (w.alloc o) b cs ty := by
  unfold Blk; rw [Below.heap_alloc w o b h.lt]; exact h
theorem Blk.of {B : Nat} (h : Blk w b cs ty) (hb : Below B w w') (hB : b < B) : Blk w' b cs ty := by
  unfold Blk; rw [hb.block b hB]; exact h
theorem Blk.same (h : Blk w b cs ty) (hb : w'.heap[b]? = w.heap[b]?) : Blk w' b cs ty := by
  unfold Blk; rw [hb]; exact h
theorem Blk.set (h : Blk w b cs ty) (i : Nat) (v : Value) : Blk (w.setCell ⟨b, i, none⟩ v) b (cs.set i v) ty := by
  unfold Blk; rw [heap_setCell_same w b i cs.toArray ty v h]; simp
theorem Blk.other (h : Blk w b cs ty) {a : Addr} (ha : b ≠ a.block) (v : Value) : Blk (w.setCell a v) b cs ty := by
  unfold Blk; rw [Below.heap_setCell _ _ _ _ ha]; exact h
theorem Blk.cell (h : Blk w b cs ty) (i : Nat) {v : Value} (hv : cs[i]? = some v) : w.cell? ⟨b, i, none⟩ = some v := by
  have : w.heap[b]? = some (.cells cs.toArray ty (0, 0)) := h
  simp [World.cell?, this, hv]
theorem Blk.free (h : Blk w b cs ty) (i : Nat) : w.frozen? ⟨b, i, none⟩ = false := frozen_of_row w b i _ _ h
end

theorem blk1 {w w' : World} {c0 : Array Value} {t0 : TypeId} (h : w.alloc (.cells c0 t0) = w') : Blk w' w.heap.size c0.toList t0 ∧ Below w.heap.size w w' := by
  subst h
  exact ⟨Blk.new _ _ _, (Below.refl _ _).alloc (Nat.le_refl _) _⟩

theorem blk2 {w w' : World} {c0 c1 : Array Value} {t0 t1 : TypeId} (h : (w.alloc (.cells c0 t0)).alloc (.cells c1 t1) = w') :
    Blk w' w.heap.size c0.toList t0 ∧ Blk w' (w.heap.size + 1) c1.toList t1 ∧ Below w.heap.size w w' := by
  obtain ⟨h0, h1⟩ := blk1 (rfl : w.alloc (.cells c0 t0) = _)
  obtain ⟨h2, h3⟩ := blk1 h
  rw [World.size_alloc] at h2 h3
  exact ⟨h0.of h3 (by omega), h2, h1.trans (h3.mono (by omega))⟩

theorem blk3 {w w' : World} {c0 c1 c2 : Array Value} {t0 t1 t2 : TypeId} (h : ((w.alloc (.cells c0 t0)).alloc (.cells c1 t1)).alloc (.cells c2 t2) = w') :
    Blk w' w.heap.size c0.toList t0 ∧ Blk w' (w.heap.size + 1) c1.toList t1 ∧ Blk w' (w.heap.size + 1 + 1) c2.toList t2 ∧ Below w.heap.size w w' := by
  obtain ⟨h0, h1, h2⟩ := blk2 (rfl : (w.alloc (.cells c0 t0)).alloc (.cells c1 t1) = _)
  obtain ⟨h3, h4⟩ := blk1 h
  rw [World.size_alloc, World.size_alloc] at h3 h4
  exact ⟨h0.of h4 (by omega), h1.of h4 (by omega), h3, h2.trans (h4.mono (by omega))⟩

theorem blk4 {w w' : World} {c0 c1 c2 c3 : Array Value} {t0 t1 t2 t3 : TypeId} (h : (((w.alloc (.cells c0 t0)).alloc (.cells c1 t1)).alloc (.cells c2 t2)).alloc (.cells c3 t3) = w') :
    Blk w' w.heap.size c0.toList t0 ∧ Blk w' (w.heap.size + 1) c1.toList t1 ∧ Blk w' (w.heap.size + 1 + 1) c2.toList t2 ∧ Blk w' (w.heap.size + 1 + 1 + 1) c3.toList t3 ∧ Below w.heap.size w w' := by
  obtain ⟨h0, h1, h2, h5⟩ := blk3 (rfl : ((w.alloc (.cells c0 t0)).alloc (.cells c1 t1)).alloc (.cells c2 t2) = _)
  obtain ⟨h3, h4⟩ := blk1 h
  rw [World.size_alloc, World.size_alloc, World.size_alloc] at h3 h4
  exact ⟨h0.of h4 (by omega), h1.of h4 (by omega), h2.of h4 (by omega), h3, h5.trans (h4.mono (by omega))⟩

theorem But.refl (fp : List Nat) (w : World) : But fp w w := ⟨rfl, rfl, rfl, Nat.le_refl _, fun _ _ _ => rfl⟩
theorem But.setCell {fp : List Nat} {w w' : World} (h : But fp w w') {a : Addr} (ha : a.block ∈ fp) (v : Value) : But fp w (w'.setCell a v) :=
  ⟨h.os, h.tape, h.output, by simpa using h.size, fun k hk hn => by rw [Below.heap_setCell _ _ _ _ (fun e => hn (by rw [e]; exact ha))]; exact h.block k hk hn⟩
theorem But.trans {fp : List Nat} {w w' w'' : World} (h : But fp w w') (k : But fp w' w'') : But fp w w'' :=
  ⟨k.os.trans h.os, k.tape.trans h.tape, k.output.trans h.output, Nat.le_trans h.size k.size, fun i hi hn => (k.block i (Nat.lt_of_lt_of_le hi h.size) hn).trans (h.block i hi hn)⟩
theorem But.of_below {fp : List Nat} {w w' : World} (h : Below w.heap.size w w') : But fp w w' := ⟨h.os, h.tape, h.output, h.size, fun k hk _ => h.block k hk⟩
theorem Enc.ow_but {α : Type} (E : Enc α) {w w' : World} {cs : List Value} {a : α} {fp fq : List Nat} (h : E.ow w cs a fp) (hb : But fq w w') (hd : ∀ b, b ∈ fp → b ∉ fq) : E.ow w' cs a fp :=
  E.ow_frame (fun b hm => hb.block b (E.ow_lt h b hm) (hd b hm)) h
theorem Blk.but {w w' : World} {b : Nat} {cs : List Value} {ty : TypeId} (h : Blk w b cs ty) {fq : List Nat} (hb : But fq w w') (hd : b ∉ fq) : Blk w' b cs ty := h.same (hb.block b h.lt hd)

theorem Below.lt {B : Nat} {w w' : World} (h : Below B w w') {b : Nat} (hb : b < w.heap.size) : b < w'.heap.size := Nat.lt_of_lt_of_le hb h.size

end Go.Proofs.YtfamhnogpcmbmaaGreatDoor

/-
  Plain lemmas: append on a slice of the call's own, its elements of whatever type ('Enc'); where the new slice lies. No program is named here.
-/
namespace Go.Proofs.YtfamhnogpcmbmaaGreatDoor
open Go.RowKit

/-- What an append's second argument yields: nothing (nil), or so many elements behind an address. -/
def SrcS (w : World) (size : Nat) (x : Value) (m : Nat) (news : List Value) : Prop :=
  (∃ c, x = .slice none 0 c ∧ m = 0 ∧ news = []) ∨
    (∃ ad c, x = .slice (some ad) m c ∧ news.length = m * size ∧ (∀ j u, news[j]? = some u → w.cell? (ad.add j) = some u) ∧ ∀ u, u ∈ news → u.oneCell' = true)

theorem run_append_place {P : Program} (w : World) (t ty e : TypeId) (i : TypeInfo) (z : Value) (size bytes : Nat) (ht : P.underlying t = some (.slice e)) (hi : P.info? e = some i) (hz : i.zero = some z)
    (hsize : i.size = size) (hby : i.bytes = bytes) (hzs : z.cells.size = size) (hsz : 0 < size) (v : Value) (n : Nat) (xs : List Value) (hown : w.ownsRow 0 e size v n xs)
    (x : Value) (m : Nat) (news : List Value) (hs : SrcS w size x m news) (h63 : n + m ≤ maxLen) (hbytes : (n + m) * bytes ≤ 140737488355328) :
    ∃ v' w', (Builtin.append_ #[t, t] ty #[v, x]).run P w = .ok v' w' ∧ w'.ownsRow 0 e size v' (n + m) (xs ++ news) ∧ w.grownBy w' v.ownBlock ∧ (v'.ownBlock = v.ownBlock ∨ ∃ g, v'.ownBlock = some g ∧ w.heap.size ≤ g) ∧
      (v' = .slice none 0 0 ↔ v = .slice none 0 0 ∧ m = 0) := by
  rcases hs with ⟨c, rfl, rfl, rfl⟩ | ⟨ad, c, rfl, hl, hnews, h1⟩
  · refine ⟨v, w, ?_, by simpa using hown, ⟨rfl, rfl, rfl, Nat.le_refl _, fun _ _ _ => rfl⟩, .inl rfl, by simp⟩
    have hS : Src P size t (.slice none 0 c) 0 [] w := Src.ofNil w ht c
    subst hsize
    rcases hown.2 with ⟨rfl, rfl⟩ | ⟨g, cap, cur, rfl, _, hg, hnc, hcm, hcs, htake⟩
    · simp [Builtin.append_, run_underlying ht, sizeOf, typeInfo, hi, Builtin.lenOf, Builtin.firstCells]
    · have := run_append_room_src (P := P) w t t ty e i ht hi g 0 n cap (.slice none 0 c) 0 [] hS (by omega) (fun j hj => by simp at hj) (fun j hj => by simp at hj)
      simpa [World.setCells] using this
  · obtain ⟨v', w', hr, h2, h3, h4⟩ := run_append_own (P := P) w 0 t ty e i z size bytes ht hi hz hsize hby hzs hsz v n xs hown ad m c news hl hnews h1 h63 hbytes (Nat.zero_le _)
    refine ⟨v', w', hr, h2, h3, ?_, h4⟩
    rcases hown.2 with ⟨rfl, rfl⟩ | ⟨g, cap, cur, rfl, _, hg, hnc, hcm, hcs, htake⟩
    · have hn : w.ownsRow w.heap.size e size (.slice none 0 0) 0 xs := ⟨hown.1, .inl ⟨rfl, rfl⟩⟩
      obtain ⟨v'', w'', hr', k2, -, -⟩ := run_append_own (P := P) w w.heap.size t ty e i z size bytes ht hi hz hsize hby hzs hsz _ 0 xs hn ad m c news hl hnews h1 h63 hbytes (Nat.le_refl _)
      rw [hr] at hr'
      obtain ⟨rfl, rfl⟩ : v' = v'' ∧ w' = w'' := by simpa using hr'
      rcases hv : v'.ownBlock with _ | g
      · exact .inl rfl
      · exact .inr ⟨g, rfl, (k2.lt g hv).1⟩
    · subst hsize
      by_cases hroom : n + m ≤ cap
      · have hfit : n * i.size + news.length ≤ cur.size := by rw [hl, hcs, ← Nat.add_mul]; exact Nat.mul_le_mul_right _ hroom
        have hr' := run_append_room (P := P) w t ty e i ht hi g n cap cur hg ad m c news hl hnews h1 hroom hfit
        rw [hr] at hr'
        obtain ⟨rfl, -⟩ : v' = _ ∧ w' = _ := by simpa using hr'
        exact .inl rfl
      · have holds : ∀ j u, xs[j]? = some u → w.cell? ((⟨g, 0, none⟩ : Addr).add j) = some u := hown.cells (g := g) rfl
        subst hby
        have hsm : n + m ≤ 9223372036854775807 := by simp only [maxLen] at h63; omega
        have hr' := run_append_grow (P := P) w t ty e i z ht hi hz ⟨g, 0, none⟩ n cap xs hown.1 holds ad m c news hl hnews (by omega) (by omega) (growslice_fits (by omega) hbytes)
        rw [hr] at hr'
        obtain ⟨rfl, -⟩ : v' = _ ∧ w' = _ := by simpa using hr'
        exact .inr ⟨_, rfl, Nat.le_refl _⟩

/-- append on a slice of one's own, the new elements with blocks of their own. -/
theorem own_append {α : Type} {E : Enc α} {ty : TypeId} {P : Program} (w : World) (t ry : TypeId) (i : TypeInfo) (z : Value) (bytes : Nat) (ht : P.underlying t = some (.slice ty)) (hi : P.info? ty = some i) (hz : i.zero = some z)
    (hsize : i.size = E.size) (hby : i.bytes = bytes) (hzs : z.cells.size = E.size) (hsz : 0 < E.size) {v : Value} {l : List α} {fp : List Nat} (hown : (sliceE E ty).ow w [v] l fp)
    (x : Value) {ys : List α} {css : List (List Value)} {fys : List (List Nat)} (hys : OwAll E w ys css fys) (hs : SrcS w E.size x ys.length css.flatten) (hd : (fp ++ fys.flatten).Nodup)
    (h63 : l.length + ys.length ≤ maxLen) (hbytes : (l.length + ys.length) * bytes ≤ 140737488355328) :
    ∃ v' w' fp', (Builtin.append_ #[t, t] ry #[v, x]).run P w = .ok v' w' ∧ (sliceE E ty).ow w' [v'] (l ++ ys) fp' ∧ fp'.Nodup ∧ (∀ b, b ∈ fp' → b ∈ fp ∨ b ∈ fys.flatten ∨ w.heap.size ≤ b) ∧ But fp w w' ∧
      (v' = .slice none 0 0 ↔ v = .slice none 0 0 ∧ ys.length = 0) := by
  obtain ⟨v0, xss, fps, hv, h1, h2, rfl⟩ := hown
  obtain rfl : v = v0 := by simpa using hv
  obtain ⟨v', w', hr, k1, k2, k3, k4⟩ := run_append_place (P := P) w t ry ty i z E.size bytes ht hi hz hsize hby hzs hsz v l.length xss.flatten h2 x ys.length css.flatten hs h63 hbytes
  have hlt1 := h1.lt
  have hlt2 := hys.lt
  rw [List.append_assoc, List.nodup_append] at hd
  obtain ⟨n1, n2, n3⟩ := hd
  have hfr : ∀ b, b ∈ fps.flatten ++ fys.flatten → w'.heap[b]? = w.heap[b]? := by
    intro b hb
    have hbl : b < w.heap.size := by
      rcases List.mem_append.1 hb with h | h
      · exact hlt1 b h
      · exact hlt2 b h
    refine k2.block b hbl (fun e => ?_)
    exact n3 b (by rw [← e]; simp) b hb rfl
  refine ⟨v', w', v'.ownBlock.toList ++ (fps ++ fys).flatten, hr, ⟨v', xss ++ css, fps ++ fys, rfl, ?_, ?_, rfl⟩, ?_, ?_, ?_, k4⟩
  · exact (h1.frame fun b hb => hfr b (List.mem_append_left _ hb)).append (hys.frame fun b hb => hfr b (List.mem_append_right _ hb))
  · rw [List.length_append, List.flatten_append]; exact k1
  · rw [List.nodup_append, List.flatten_append]
    refine ⟨nodup_option _, n2, fun a ha b hb e => ?_⟩
    subst e
    rcases k3 with k3 | ⟨g, k3, hg⟩
    · rw [k3] at ha; exact n3 a ha a hb rfl
    · rw [k3] at ha
      have hag : a = g := by simpa using ha
      have hbl : a < w.heap.size := by
        rcases List.mem_append.1 hb with h | h
        · exact hlt1 a h
        · exact hlt2 a h
      omega
  · intro b hb
    rw [List.flatten_append] at hb
    rcases List.mem_append.1 hb with hb | hb
    · rcases k3 with k3 | ⟨g, k3, hg⟩
      · rw [k3] at hb; exact .inl (List.mem_append_left _ hb)
      · rw [k3] at hb
        have : b = g := by simpa using hb
        subst this
        exact .inr (.inr hg)
    · rcases List.mem_append.1 hb with hb | hb
      · exact .inl (List.mem_append_right _ hb)
      · exact .inr (.inl hb)
  · refine ⟨k2.os, k2.tape, k2.output, k2.size, fun k hk hn => k2.block k hk (fun e => hn ?_)⟩
    exact List.mem_append_left _ (by rw [← e]; simp)

/-- The law for the walk. -/
theorem wpList_append_enc {α : Type} {E : Enc α} {ty : TypeId} {P : Program} {w : World} {ops : Array Oper} {rest : List Oper} {o : Oper} {a : Act} {Q : Exit → Act → World → Prop} (hgd : o.guard = none) (s x : Operand) (t : TypeId)
    (ho : o.op = .call { callee := .builtin .append, args := #[s, x], argTypes := #[t, t] })
    (i : TypeInfo) (z : Value) (bytes : Nat) (ht : P.underlying t = some (.slice ty)) (hi : P.info? ty = some i) (hz : i.zero = some z)
    (hsize : i.size = E.size) (hby : i.bytes = bytes) (hzs : z.cells.size = E.size) (hsz : 0 < E.size) {v : Value} {l : List α} {fp : List Nat} (hv : a.eval s = v) (hown : (sliceE E ty).ow w [v] l fp)
    {ys : List α} {css : List (List Value)} {fys : List (List Nat)} (hys : OwAll E w ys css fys) (hs : SrcS w E.size (a.eval x) ys.length css.flatten) (hd : (fp ++ fys.flatten).Nodup)
    (h63 : l.length + ys.length ≤ maxLen) (hbytes : (l.length + ys.length) * bytes ≤ 140737488355328)
    (h : ∀ v' w' fp', (sliceE E ty).ow w' [v'] (l ++ ys) fp' → fp'.Nodup → (∀ b, b ∈ fp' → b ∈ fp ∨ b ∈ fys.flatten ∨ w.heap.size ≤ b) → But fp w w' → wpList P ops Q rest (a.put o.dst v') w') : wpList P ops Q (o :: rest) a w := by
  obtain ⟨v', w', fp', hr, k1, k2, k3, k4, -⟩ := own_append (P := P) w t o.type i z bytes ht hi hz hsize hby hzs hsz hown (a.eval x) hys hs hd h63 hbytes
  refine wpList_plain hgd fun K hK => ?_
  unfold Oper.wp execOp
  simp only [ho, resolve, invoke, builtin, Sem.run_bind, Sem.run_pure, Result.andThen_ok, List.map_toArray, List.map_cons, List.map_nil, hv, hr]
  exact hK _ _ (h v' w' fp' k1 k2 k3 k4)

theorem SrcS.one {w : World} {size : Nat} {ad : Addr} {c : Nat} {cs : List Value} (hl : cs.length = size) (hc : ∀ j u, cs[j]? = some u → w.cell? (ad.add j) = some u) (h1 : ∀ u, u ∈ cs → u.oneCell' = true) : SrcS w size (.slice (some ad) 1 c) 1 [cs].flatten :=
  .inr ⟨ad, c, rfl, by simp [hl], by simpa using hc, by simpa using h1⟩

/-- What a slice of readable elements without blocks of their own yields. -/
theorem src_of_rd {α : Type} {E : Enc α} {ty : TypeId} {w : World} {B : Nat} {v : Value} {l : List α} (c : α → List Value) (inv : ∀ x cs, E.rd w B cs x → cs = c x ∧ E.ow w cs x []) (h1 : ∀ x u, u ∈ c x → u.oneCell' = true) (h : (sliceE E ty).rd w B [v] l) :
    ∃ css fys, OwAll E w l css fys ∧ fys.flatten = [] ∧ SrcS w E.size v l.length css.flatten := by
  obtain ⟨a, cap, hv, e1, e2, e3, e4⟩ := h
  obtain rfl : v = .slice a l.length cap := by simpa using hv
  have hall : ∀ x, x ∈ l → E.ow w (c x) x [] := by
    intro x hx
    obtain ⟨k, hk, rfl⟩ := List.getElem_of_mem hx
    obtain ⟨b, o, xs, -, -, hr, -⟩ := e4 k _ (List.getElem?_eq_getElem hk)
    obtain ⟨rfl, h⟩ := inv _ _ hr
    exact h
  have key : ∀ l : List α, (∀ x, x ∈ l → E.ow w (c x) x []) → OwAll E w l (l.map c) (l.map fun _ => []) := by
    intro l
    induction l with
    | nil => intro _; exact .nil
    | cons a l ih => intro h; exact .cons (h a (by simp)) (ih fun x hx => h x (by simp [hx]))
  refine ⟨l.map c, l.map fun _ => [], key l hall, by simp, ?_⟩
  have hlen : ∀ x, x ∈ l → (c x).length = E.size := fun x hx => E.rd_len (E.ow_rd (B := 0) (fun b hb => by cases hb) (hall x hx))
  rcases a with _ | ad
  · have : l = [] := List.eq_nil_of_length_eq_zero (by have := e3 rfl; omega)
    subst this
    exact .inl ⟨cap, rfl, rfl, rfl⟩
  · refine .inr ⟨ad, cap, rfl, ?_, ?_, ?_⟩
    · have := (key l hall).flat; exact this
    · intro j u hu
      have hj : j < (l.map c).flatten.length := (List.getElem?_eq_some_iff.1 hu).1
      have hfl := (key l hall).flat
      rw [hfl] at hj
      have hpos : 0 < E.size := by
        rcases Nat.eq_zero_or_pos E.size with h | h
        · rw [h, Nat.mul_zero] at hj; omega
        · exact h
      have hk : j / E.size < l.length := Nat.div_lt_of_lt_mul (by rw [Nat.mul_comm]; exact hj)
      obtain ⟨b, o, xs, ha, -, hr, hc⟩ := e4 (j / E.size) _ (List.getElem?_eq_getElem hk)
      obtain ⟨rfl, -⟩ := inv _ _ hr
      obtain rfl : ad = ⟨b, o, none⟩ := by simpa using ha
      have hno : ∀ b, b ∈ (l.map fun _ => ([] : List Nat)).flatten → b < w.heap.size := by
        have e : (l.map fun _ => ([] : List Nat)).flatten = [] := by simp
        rw [e]; intro b hb; cases hb
      obtain ⟨xs', f', q1, -, -, -, q5⟩ := (key l hall).rdAt (B := w.heap.size) hno (j / E.size) _ (List.getElem?_eq_getElem hk)
      have hxs : xs' = c l[j / E.size] := by
        rw [List.getElem?_map, List.getElem?_eq_getElem hk] at q1
        simpa using q1.symm
      subst hxs
      have hm : j % E.size < (c l[j / E.size]).length := by rw [hlen _ (List.getElem_mem hk)]; exact Nat.mod_lt _ hpos
      have e := q5 (j % E.size) _ (List.getElem?_eq_getElem hm)
      have hj2 : j / E.size * E.size + j % E.size = j := by rw [Nat.mul_comm]; exact Nat.div_add_mod j E.size
      rw [hj2, hu] at e
      have := hc (j % E.size) _ (List.getElem?_eq_getElem hm)
      rw [hj2] at this
      rw [Addr.add_lit, this]
      exact e.symm
    · intro u hu
      obtain ⟨cs, hcs, hu⟩ := List.mem_flatten.1 hu
      obtain ⟨x, hx, rfl⟩ := List.mem_map.1 hcs
      exact h1 x u hu

/-- append of one element. -/
theorem wpList_append_one {α : Type} {E : Enc α} {ty : TypeId} {P : Program} {w : World} {ops : Array Oper} {rest : List Oper} {o : Oper} {a : Act} {Q : Exit → Act → World → Prop} (hgd : o.guard = none) (s x : Operand) (t : TypeId)
    (ho : o.op = .call { callee := .builtin .append, args := #[s, x], argTypes := #[t, t] })
    (i : TypeInfo) (z : Value) (bytes : Nat) (ht : P.underlying t = some (.slice ty)) (hi : P.info? ty = some i) (hz : i.zero = some z)
    (hsize : i.size = E.size) (hby : i.bytes = bytes) (hzs : z.cells.size = E.size) (hsz : 0 < E.size) (hb64 : bytes ≤ 64) {v : Value} {l : List α} {fp : List Nat} (hv : a.eval s = v) (hown : (sliceE E ty).ow w [v] l fp) (hn : fp.Nodup)
    {g c : Nat} (hx : a.eval x = .slice (some ⟨g, 0, none⟩) 1 c) {y : α} {cs : List Value} {fy : List Nat} (hc : ∀ j u, cs[j]? = some u → w.cell? ⟨g, j, none⟩ = some u) (h1 : ∀ u, u ∈ cs → u.oneCell' = true) (hy : E.ow w cs y fy)
    (hny : fy.Nodup) (hd : ∀ b, b ∈ fy → b ∉ fp) (hlen : l.length ≤ 1000000000000)
    (h : ∀ v' w' fp', (sliceE E ty).ow w' [v'] (l ++ [y]) fp' → fp'.Nodup → (∀ b, b ∈ fp' → b ∈ fp ∨ b ∈ fy ∨ w.heap.size ≤ b) → But fp w w' → wpList P ops Q rest (a.put o.dst v') w') : wpList P ops Q (o :: rest) a w := by
  have hcl : cs.length = E.size := E.rd_len (E.rd_ow hy)
  have hb : (l.length + [y].length) * bytes ≤ 140737488355328 := by
    have : (l.length + [y].length) * bytes ≤ 1000000000001 * 64 := Nat.mul_le_mul (by simp; omega) hb64
    omega
  refine wpList_append_enc (E := E) (ty := ty) hgd s x t ho i z bytes ht hi hz hsize hby hzs hsz hv hown (OwAll.one hy) ?_ ?_ (by simp [maxLen]; omega) hb (fun v' w' fp' k1 k2 k3 k4 => h v' w' fp' k1 k2 (fun b hb => by have := k3 b hb; simpa using this) k4)
  · rw [hx]
    exact SrcS.one (ad := ⟨g, 0, none⟩) hcl (fun j u hu => by rw [Addr.add_lit]; simpa using hc j u hu) h1
  · rw [List.nodup_append]
    exact ⟨hn, by simpa using hny, fun p hp q hq e => hd q (by simpa using hq) (e ▸ hp)⟩

/-- A slice whose elements, of one cell each, have just been written into a block. -/
theorem ow_lit {α : Type} {E : Enc α} {ty : TypeId} {w : World} {g : Nat} {l : List α} (f : α → Value) (hE : E.size = 1) (hf : ∀ x, x ∈ l → E.ow w [f x] x []) (h : Blk w g (l.map f) ty) (hl : l.length ≤ maxLen) :
    (sliceE E ty).ow w [.slice (some ⟨g, 0, none⟩) l.length l.length] l [g] :=
  ow_flat (base := 0) f hE hf ⟨by simp, .inr ⟨g, l.length, (l.map f).toArray, rfl, Nat.zero_le _, h, Nat.le_refl _, hl, by simp, by rw [List.take_of_length_le] <;> simp⟩⟩

theorem ow_nil {α : Type} (E : Enc α) (ty : TypeId) (w : World) : (sliceE E ty).ow w [.slice none 0 0] [] [] := ⟨_, [], [], rfl, .nil, by simpa using World.ownsRow_nil w 0 ty E.size, rfl⟩

theorem Blk.set3 {w w' : World} {b : Nat} {cs : List Value} {ty : TypeId} (h : Blk w b cs ty) (hl : cs.length = 3) {v0 v1 v2 : Value} (hW : ((w.setCell ⟨b, 0, none⟩ v0).setCell ⟨b, 1, none⟩ v1).setCell ⟨b, 2, none⟩ v2 = w') :
    Blk w' b [v0, v1, v2] ty ∧ But [b] w w' := by
  subst hW
  refine ⟨?_, (((But.refl _ _).setCell (by simp) _).setCell (by simp) _).setCell (by simp) _⟩
  match cs, hl with
  | [_, _, _], _ => exact ((h.set 0 _).set 1 _).set 2 _

theorem Blk.set4 {w w' : World} {b : Nat} {cs : List Value} {ty : TypeId} (h : Blk w b cs ty) (hl : cs.length = 4) {v0 v1 v2 v3 : Value} (hW : (((w.setCell ⟨b, 0, none⟩ v0).setCell ⟨b, 1, none⟩ v1).setCell ⟨b, 2, none⟩ v2).setCell ⟨b, 3, none⟩ v3 = w') :
    Blk w' b [v0, v1, v2, v3] ty ∧ But [b] w w' := by
  subst hW
  refine ⟨?_, ((((But.refl _ _).setCell (by simp) _).setCell (by simp) _).setCell (by simp) _).setCell (by simp) _⟩
  match cs, hl with
  | [_, _, _, _], _ => exact (((h.set 0 _).set 1 _).set 2 _).set 3 _

theorem Enc.ow_set {α : Type} (E : Enc α) {w : World} {cs : List Value} {x : α} {fp : List Nat} (h : E.ow w cs x fp) {a : Addr} (ha : ∀ b, b ∈ fp → b ≠ a.block) (v : Value) : E.ow (w.setCell a v) cs x fp :=
  E.ow_frame (fun b hb => Below.heap_setCell _ _ _ _ (ha b hb)) h

theorem bd0 : (-9223372036854775808 : Int) ≤ 0 ∧ (0 : Int) ≤ 9223372036854775807 := by decide
theorem bd1 : (-9223372036854775808 : Int) ≤ 1 ∧ (1 : Int) ≤ 9223372036854775807 := by decide

theorem one_mem {v : Value} (h : v.oneCell' = true) : ∀ u, u ∈ [v] → u.oneCell' = true := by
  intro u hu
  have e : u = v := by simpa using hu
  rw [e]; exact h

/-- A new element that is itself a slice just written, stored in a block of one cell. -/
theorem lit_slice {α : Type} {E : Enc α} {ty tb : TypeId} (w : World) (l : List α) (f : α → Value) (hE : E.size = 1) (hf : ∀ (w : World) x, x ∈ l → E.ow w [f x] x []) (hl : l.length ≤ maxLen) {W : World}
    (hW : W = (w.alloc (.cells (l.map f).toArray ty)).alloc (.cells #[.slice (some ⟨w.heap.size, 0, none⟩) l.length l.length] tb)) :
    (sliceE E ty).ow W [.slice (some ⟨w.heap.size, 0, none⟩) l.length l.length] l [w.heap.size] ∧ (∀ j u, [Value.slice (some ⟨w.heap.size, 0, none⟩) l.length l.length][j]? = some u → W.cell? ⟨w.heap.size + 1, j, none⟩ = some u) ∧
      Below w.heap.size w W ∧ W.heap.size = w.heap.size + 1 + 1 := by
  obtain ⟨h0, h1, h2⟩ := blk2 hW.symm
  refine ⟨ow_lit f hE (hf W) (by simpa using h0) hl, fun j u hu => h1.cell j (by simpa using hu), h2, by rw [hW]; simp⟩

/-- A call that hands back a struct of new memory and a code. -/
abbrev MakesC {α : Type} (E : Enc α) (x : α × Int) (w : World) (e : Ending) (w' : World) : Prop :=
  ∃ cs fp, e = .returned (.tuple #[.agg cs.toArray, .int .i64 x.2]) ∧ E.ow w' cs x.1 fp ∧ fp.Nodup ∧ (∀ b, b ∈ fp → w.heap.size ≤ b) ∧ Below w.heap.size w w'

end Go.Proofs.YtfamhnogpcmbmaaGreatDoor

/-
  Plain lemmas: what the form's own reading of an argument ('DataW.trod') gives: the argument can be read as a value of a Lean type ('Enc.rd'). No program is named here.
-/
namespace Go.Proofs.YtfamhnogpcmbmaaGreatDoor
open Go.RowKit Go.ChangeShapes Go.WideShapes

/-- Whatever the form reads at type 't' is a value of E's type. -/
def Opens (P : Program) {α : Type} (E : Enc α) (t : TypeId) : Prop :=
  ∀ (H : Type) (enc : TypeId × Value → H) (w : World) (fuel : Nat) (cs : List Value) (x : DataW H × List MemPlace),
    DataW.trod enc P w 0 (fun _ => true) true fuel t cs = some x → ∃ a, E.rd w w.heap.size cs a

section
variable {P : Program} {t : TypeId}

theorem wf_bounds {a : Int} (h : (Lit.int .i64 a).wf = true) : -9223372036854775808 ≤ a ∧ a ≤ 9223372036854775807 := by
  simpa [Lit.wf, IntKind.min, IntKind.max, IntKind.bits, IntKind.signed] using h

theorem opens_int (h : P.underlying t = some (.int .i64)) : Opens P intE t := by
  intro H enc w fuel cs x hx
  obtain ⟨n, rfl, rfl, hw⟩ := DataW.trod_int h hx
  exact ⟨n, rfl, wf_bounds hw⟩

theorem opens_bool (h : P.underlying t = some .bool) : Opens P boolE t := by
  intro H enc w fuel cs x hx
  obtain ⟨n, rfl, rfl⟩ := DataW.trod_bool h hx
  exact ⟨n, rfl⟩

theorem opens_str (h : P.underlying t = some .string) : Opens P strE t := by
  intro H enc w fuel cs x hx
  obtain ⟨n, rfl, rfl, hs⟩ := DataW.trod_string h hx
  exact ⟨n, rfl, hs⟩

theorem opens_via {α β : Type} {E : Enc β} {f : α → β} (g : β → α) (hg : ∀ b, f (g b) = b) (h : Opens P E t) : Opens P (viaE E f) t := by
  intro H enc w fuel cs x hx
  obtain ⟨b, hb⟩ := h H enc w fuel cs x hx
  exact ⟨g b, by show E.rd _ _ _ (f (g b)); rw [hg]; exact hb⟩

theorem cells_get : ∀ {w : World} {a : Addr} {n : Nat} {cs : List Value}, w.cells? 0 a n = some cs → cs.length = n ∧ ∀ j v, cs[j]? = some v → w.cell? (a.add j) = some v := by
  intro w a n cs h
  unfold World.cells? at h
  rw [if_pos (Nat.zero_le _)] at h
  refine ⟨by simpa using mapM_some_length h, fun j v hj => ?_⟩
  have hj' : j < n := by have := (List.getElem?_eq_some_iff.1 hj).1; have h2 : cs.length = n := (by simpa using mapM_some_length h); omega
  have := mapM_some_get h j j (by simp [hj'])
  rw [this, hj]

theorem opens_slice {α : Type} {E : Enc α} {e : TypeId} (h : P.underlying t = some (.slice e)) (he : Opens P E e) (hs : P.cellsOf e = E.size) (hpos : 0 < E.size) : Opens P (sliceE E e) t := by
  intro H enc w fuel cs x hx
  rcases Deep.open_slice h hx with ⟨rfl, _⟩ | ⟨a, len, cap, m, n, D, Pl, rfl, _, hl, hm, hmm, _, hel⟩
  · exact ⟨[], none, 0, rfl, Nat.le_refl _, Nat.zero_le _, fun _ => rfl, fun i x hx => by simp at hx⟩
  · have hcap : m = cap := by simpa using hmm
    have hA : ∀ i, i < len → ∃ p : List Value × α, w.cells? 0 (a.add (i * E.size)) E.size = some p.1 ∧ E.rd w w.heap.size p.1 p.2 := by
      intro i hi
      obtain ⟨cs', h1, h2⟩ := hel i (by omega)
      obtain ⟨y, hy⟩ := he _ _ _ _ _ _ h2
      rw [hs] at h1
      exact ⟨(cs', y), h1, hy⟩
    by_cases h0 : len = 0
    · subst h0
      exact ⟨[], some a, cap, rfl, hl, hm, (fun h => by cases h), fun i x hx => by simp at hx⟩
    · obtain ⟨⟨c0, y0⟩, _⟩ := hA 0 (by omega)
      haveI : Inhabited (List Value × α) := ⟨(c0, y0)⟩
      obtain ⟨f, hf⟩ := Deep.choose_lt hA
      refine ⟨(List.range len).map fun i => (f i).2, some a, cap, by simp, by simpa using hl, hm, (fun h => by cases h), fun i x hx => ?_⟩
      have hi : i < len := by have := (List.getElem?_eq_some_iff.1 hx).1; simpa using this
      have hxe : x = (f i).2 := by
        rw [List.getElem?_map, List.getElem?_range hi] at hx
        simpa using hx.symm
      subst hxe
      obtain ⟨h1, h2⟩ := hf i hi
      obtain ⟨hlen, hget⟩ := cells_get h1
      have hsp : ∃ b o, a = ⟨b, o, none⟩ ∧ b < w.heap.size := by
        have hc0 : ∃ v, (f 0).1[0]? = some v := by
          obtain ⟨h1', _⟩ := hf 0 (by omega)
          have := (cells_get h1').1
          exact ⟨_, List.getElem?_eq_getElem (by omega)⟩
        obtain ⟨v, hv⟩ := hc0
        have := (cells_get (hf 0 (by omega)).1).2 0 v hv
        simp only [Nat.zero_mul, Addr.add, if_true] at this
        have h3 := World.cell?_spot this
        have h4 := World.block_lt_of_cell? w _ this
        obtain ⟨b, o, s⟩ := a
        exact ⟨b, o, by simpa using h3, h4⟩
      obtain ⟨b, o, rfl, hb⟩ := hsp
      refine ⟨b, o, (f i).1, rfl, hb, h2, fun j v hv => ?_⟩
      have := hget j v hv
      rw [Deep.add_add] at this
      simpa [Addr.add_lit] using this

/-- The fields of a struct, one behind the other. -/
inductive OpensF (P : Program) : {α : Type} → List Field → Nat → Enc α → Prop
  | last {α : Type} {E : Enc α} {f : Field} {off : Nat} : Opens P E f.type → f.offset = off → P.cellsOf f.type = E.size → OpensF P [f] off E
  | cons {α β : Type} {E : Enc α} {F : Enc β} {f : Field} {fs : List Field} {off : Nat} : Opens P E f.type → f.offset = off → P.cellsOf f.type = E.size → OpensF P fs (off + E.size) F →
      OpensF P (f :: fs) off (pairE E F)

theorem OpensF.rd {α : Type} {fs : List Field} {off : Nat} {E : Enc α} (h : OpensF P fs off E) {H : Type} {enc : TypeId × Value → H} {w : World} {n : Nat} {cs : List Value}
    (hf : ∀ f, f ∈ fs → ∃ x, DataW.trod enc P w 0 (fun _ => true) true n f.type ((cs.drop f.offset).take (P.cellsOf f.type)) = some x) : ∃ a, E.rd w w.heap.size ((cs.drop off).take E.size) a := by
  induction h with
  | @last α E f off h1 h2 h3 =>
    obtain ⟨x, hx⟩ := hf f (by simp)
    rw [h2, h3] at hx
    exact h1 _ _ _ _ _ _ hx
  | @cons α β E F f fs off h1 h2 h3 h4 ih =>
    obtain ⟨x, hx⟩ := hf f (by simp)
    rw [h2, h3] at hx
    obtain ⟨a, ha⟩ := h1 _ _ _ _ _ _ hx
    obtain ⟨b, hb⟩ := ih (fun g hg => hf g (by simp [hg]))
    refine ⟨(a, b), _, _, ?_, ha, hb⟩
    show List.take (E.size + F.size) _ = _
    rw [List.take_add, List.drop_drop]

theorem opens_struct {α : Type} {E : Enc α} {fs : Array Field} (h : P.underlying t = some (.struct fs)) (hs : P.cellsOf t = E.size) (hf : OpensF P fs.toList 0 E) : Opens P E t := by
  intro H enc w fuel cs x hx
  obtain ⟨xs, n, _, rfl, hl, hlen, hg⟩ := DataW.trod_struct h hx
  obtain ⟨a, ha⟩ := hf.rd (enc := enc) (w := w) (n := n) (cs := cs) (fun f hm => by
    obtain ⟨i, hi, he⟩ := List.getElem_of_mem hm
    have h1 := hg i f (by simp [← he])
    rw [h1]
    have : i < xs.length := by rw [hlen]; simpa using hi
    exact ⟨_, List.getElem?_eq_getElem this⟩)
  refine ⟨a, ?_⟩
  rw [List.drop_zero, ← hs, ← hl, List.take_length] at ha
  exact ha
end

end Go.Proofs.YtfamhnogpcmbmaaGreatDoor

/-
  The program's structs as Lean structures, and how they lie in cells (written by a program of this claim's own, gen_structs.py).
-/
namespace Go.Proofs.YtfamhnogpcmbmaaGreatDoor
open Go.RowKit

structure Move where
  to : Int
  dir : Int
deriving DecidableEq, Inhabited

structure PMove where
  to : Int
  dir : Int
  does : Int
deriving DecidableEq, Inhabited

def moveE : Enc Move := viaE (pairE intE intE) fun m => (m.to, m.dir)
def pmoveE : Enc PMove := viaE (pairE intE (pairE intE intE)) fun m => (m.to, m.dir, m.does)

abbrev intsE : Enc (List Int) := sliceE intE 2

abbrev intssE : Enc (List (List Int)) := sliceE intsE 92

abbrev boolsE : Enc (List Bool) := sliceE boolE 4

abbrev strsE : Enc (List ByteArray) := sliceE strE 9

abbrev strssE : Enc (List (List ByteArray)) := sliceE strsE 50

abbrev movesE : Enc (List Move) := sliceE moveE 75

abbrev movessE : Enc (List (List Move)) := sliceE movesE 60

theorem one_of {cs : List Value} (h : cs.length = 1) : ∃ v, cs = [v] := by
  match cs, h with
  | [v], _ => exact ⟨v, rfl⟩

structure Rot where
  letters : Int
  start : Int
  next : List (List Int)
  fin : List Int
deriving DecidableEq, Inhabited

def rotsE : Enc Rot := viaE (pairE intE (pairE intE (pairE intssE (intsE)))) fun r => (r.letters, r.start, r.next, r.fin)

theorem rd_Rot {w : World} {B : Nat} {cs : List Value} {r : Rot} (h : rotsE.rd w B cs r) :
    ∃ v2 v3, cs = [.int .i64 r.letters, .int .i64 r.start, v2, v3] ∧ (-9223372036854775808 ≤ r.letters ∧ r.letters ≤ 9223372036854775807) ∧ (-9223372036854775808 ≤ r.start ∧ r.start ≤ 9223372036854775807) ∧ intssE.rd w B [v2] r.next ∧ intsE.rd w B [v3] r.fin := by
  obtain ⟨c0, _, rfl, ⟨rfl, b0⟩, c1, _, rfl, ⟨rfl, b1⟩, c2, c3, rfl, h2, h3⟩ := h
  obtain ⟨v2, rfl⟩ := one_of (Enc.rd_len _ h2)
  obtain ⟨v3, rfl⟩ := one_of (Enc.rd_len _ h3)
  exact ⟨v2, v3, rfl, b0, b1, h2, h3⟩

theorem ow_Rot {w : World} {v2 v3 : Value} {f2 f3 : List Nat} {r : Rot} (b0 : (-9223372036854775808 ≤ r.letters ∧ r.letters ≤ 9223372036854775807)) (b1 : (-9223372036854775808 ≤ r.start ∧ r.start ≤ 9223372036854775807))
    (h2 : intssE.ow w [v2] r.next f2) (h3 : intsE.ow w [v3] r.fin f3) : rotsE.ow w [.int .i64 r.letters, .int .i64 r.start, v2, v3] r (f2 ++ f3) :=
  ⟨_, _, [], _, rfl, rfl, ⟨⟨rfl, b0⟩, rfl⟩, ⟨_, _, [], _, rfl, rfl, ⟨⟨rfl, b1⟩, rfl⟩, ⟨_, _, _, _, rfl, rfl, h2, h3⟩⟩⟩

theorem ow_Rot_inv {w : World} {cs : List Value} {fp : List Nat} {r : Rot} (h : rotsE.ow w cs r fp) :
    ∃ v2 f2 v3 f3, cs = [.int .i64 r.letters, .int .i64 r.start, v2, v3] ∧ (-9223372036854775808 ≤ r.letters ∧ r.letters ≤ 9223372036854775807) ∧ (-9223372036854775808 ≤ r.start ∧ r.start ≤ 9223372036854775807) ∧ intssE.ow w [v2] r.next f2 ∧ intsE.ow w [v3] r.fin f3 ∧ fp = f2 ++ f3 := by
  obtain ⟨c0, d0, f0, g0, rfl, rfl, ⟨⟨rfl, b0⟩, rfl⟩, c1, d1, f1, g1, rfl, rfl, ⟨⟨rfl, b1⟩, rfl⟩, c2, d2, f2, g2, rfl, rfl, h2, h3⟩ := h
  obtain ⟨v2, rfl⟩ := one_of (Enc.rd_len _ (Enc.rd_ow _ h2))
  obtain ⟨v3, rfl⟩ := one_of (Enc.rd_len _ (Enc.rd_ow _ h3))
  exact ⟨v2, f2, v3, _, rfl, b0, b1, h2, h3, by simp⟩

structure Reader where
  letters : Int
  start : Int
  accept : List Bool
  next : List (List Int)
deriving DecidableEq, Inhabited

def readE : Enc Reader := viaE (pairE intE (pairE intE (pairE boolsE (intssE)))) fun r => (r.letters, r.start, r.accept, r.next)

theorem rd_Reader {w : World} {B : Nat} {cs : List Value} {r : Reader} (h : readE.rd w B cs r) :
    ∃ v2 v3, cs = [.int .i64 r.letters, .int .i64 r.start, v2, v3] ∧ (-9223372036854775808 ≤ r.letters ∧ r.letters ≤ 9223372036854775807) ∧ (-9223372036854775808 ≤ r.start ∧ r.start ≤ 9223372036854775807) ∧ boolsE.rd w B [v2] r.accept ∧ intssE.rd w B [v3] r.next := by
  obtain ⟨c0, _, rfl, ⟨rfl, b0⟩, c1, _, rfl, ⟨rfl, b1⟩, c2, c3, rfl, h2, h3⟩ := h
  obtain ⟨v2, rfl⟩ := one_of (Enc.rd_len _ h2)
  obtain ⟨v3, rfl⟩ := one_of (Enc.rd_len _ h3)
  exact ⟨v2, v3, rfl, b0, b1, h2, h3⟩

theorem ow_Reader {w : World} {v2 v3 : Value} {f2 f3 : List Nat} {r : Reader} (b0 : (-9223372036854775808 ≤ r.letters ∧ r.letters ≤ 9223372036854775807)) (b1 : (-9223372036854775808 ≤ r.start ∧ r.start ≤ 9223372036854775807))
    (h2 : boolsE.ow w [v2] r.accept f2) (h3 : intssE.ow w [v3] r.next f3) : readE.ow w [.int .i64 r.letters, .int .i64 r.start, v2, v3] r (f2 ++ f3) :=
  ⟨_, _, [], _, rfl, rfl, ⟨⟨rfl, b0⟩, rfl⟩, ⟨_, _, [], _, rfl, rfl, ⟨⟨rfl, b1⟩, rfl⟩, ⟨_, _, _, _, rfl, rfl, h2, h3⟩⟩⟩

theorem ow_Reader_inv {w : World} {cs : List Value} {fp : List Nat} {r : Reader} (h : readE.ow w cs r fp) :
    ∃ v2 f2 v3 f3, cs = [.int .i64 r.letters, .int .i64 r.start, v2, v3] ∧ (-9223372036854775808 ≤ r.letters ∧ r.letters ≤ 9223372036854775807) ∧ (-9223372036854775808 ≤ r.start ∧ r.start ≤ 9223372036854775807) ∧ boolsE.ow w [v2] r.accept f2 ∧ intssE.ow w [v3] r.next f3 ∧ fp = f2 ++ f3 := by
  obtain ⟨c0, d0, f0, g0, rfl, rfl, ⟨⟨rfl, b0⟩, rfl⟩, c1, d1, f1, g1, rfl, rfl, ⟨⟨rfl, b1⟩, rfl⟩, c2, d2, f2, g2, rfl, rfl, h2, h3⟩ := h
  obtain ⟨v2, rfl⟩ := one_of (Enc.rd_len _ (Enc.rd_ow _ h2))
  obtain ⟨v3, rfl⟩ := one_of (Enc.rd_len _ (Enc.rd_ow _ h3))
  exact ⟨v2, f2, v3, _, rfl, b0, b1, h2, h3, by simp⟩

structure Many where
  letters : Int
  starts : List Int
  accept : List Bool
  next : List (List (List Int))
deriving DecidableEq, Inhabited

structure Turner where
  letters : Int
  start : Int
  moves : List (List Move)
deriving DecidableEq, Inhabited

def turnE : Enc Turner := viaE (pairE intE (pairE intE (movessE))) fun r => (r.letters, r.start, r.moves)

theorem rd_Turner {w : World} {B : Nat} {cs : List Value} {r : Turner} (h : turnE.rd w B cs r) :
    ∃ v2, cs = [.int .i64 r.letters, .int .i64 r.start, v2] ∧ (-9223372036854775808 ≤ r.letters ∧ r.letters ≤ 9223372036854775807) ∧ (-9223372036854775808 ≤ r.start ∧ r.start ≤ 9223372036854775807) ∧ movessE.rd w B [v2] r.moves := by
  obtain ⟨c0, _, rfl, ⟨rfl, b0⟩, c1, c2, rfl, ⟨rfl, b1⟩, h2⟩ := h
  obtain ⟨v2, rfl⟩ := one_of (Enc.rd_len _ h2)
  exact ⟨v2, rfl, b0, b1, h2⟩

theorem ow_Turner {w : World} {v2 : Value} {f2 : List Nat} {r : Turner} (b0 : (-9223372036854775808 ≤ r.letters ∧ r.letters ≤ 9223372036854775807)) (b1 : (-9223372036854775808 ≤ r.start ∧ r.start ≤ 9223372036854775807))
    (h2 : movessE.ow w [v2] r.moves f2) : turnE.ow w [.int .i64 r.letters, .int .i64 r.start, v2] r (f2) :=
  ⟨_, _, [], _, rfl, rfl, ⟨⟨rfl, b0⟩, rfl⟩, ⟨_, _, [], _, rfl, rfl, ⟨⟨rfl, b1⟩, rfl⟩, h2⟩⟩

theorem ow_Turner_inv {w : World} {cs : List Value} {fp : List Nat} {r : Turner} (h : turnE.ow w cs r fp) :
    ∃ v2 f2, cs = [.int .i64 r.letters, .int .i64 r.start, v2] ∧ (-9223372036854775808 ≤ r.letters ∧ r.letters ≤ 9223372036854775807) ∧ (-9223372036854775808 ≤ r.start ∧ r.start ≤ 9223372036854775807) ∧ movessE.ow w [v2] r.moves f2 ∧ fp = f2 := by
  obtain ⟨c0, d0, f0, g0, rfl, rfl, ⟨⟨rfl, b0⟩, rfl⟩, c1, d1, f1, g1, rfl, rfl, ⟨⟨rfl, b1⟩, rfl⟩, h2⟩ := h
  obtain ⟨v2, rfl⟩ := one_of (Enc.rd_len _ (Enc.rd_ow _ h2))
  exact ⟨v2, _, rfl, b0, b1, h2, by simp⟩

structure Pebbler where
  letters : Int
  start : Int
  moves : List (List PMove)
deriving DecidableEq, Inhabited

structure Writer where
  turner : Turner
  out : List (List ByteArray)
deriving DecidableEq, Inhabited

def writE : Enc Writer := viaE (pairE turnE strssE) fun w => (w.turner, w.out)

theorem rd_Writer {w : World} {B : Nat} {cs : List Value} {r : Writer} (h : writE.rd w B cs r) :
    ∃ v2 v3, cs = [.int .i64 r.turner.letters, .int .i64 r.turner.start, v2, v3] ∧ turnE.rd w B [.int .i64 r.turner.letters, .int .i64 r.turner.start, v2] r.turner ∧ strssE.rd w B [v3] r.out := by
  obtain ⟨c0, c1, rfl, h0, h1⟩ := h
  obtain ⟨v2, rfl, b0, b1, h2⟩ := rd_Turner h0
  obtain ⟨v3, rfl⟩ := one_of (Enc.rd_len _ h1)
  exact ⟨v2, v3, rfl, h0, h1⟩

theorem ow_Writer {w : World} {c0 : List Value} {v3 : Value} {f0 f1 : List Nat} {r : Writer} (h0 : turnE.ow w c0 r.turner f0) (h1 : strssE.ow w [v3] r.out f1) : writE.ow w (c0 ++ [v3]) r (f0 ++ f1) := ⟨_, _, _, _, rfl, rfl, h0, h1⟩

end Go.Proofs.YtfamhnogpcmbmaaGreatDoor

/-
  Plain lemmas: a region that draws its order and whose callees leave all memory that was there as it was (they may make new blocks): one walk in the order of the text serves every order.
-/
namespace Go.Proofs.YtfamhnogpcmbmaaGreatDoor
open Go.RowKit

/-- w, with what u has beyond it. -/
def over (w u : World) : World := { heap := w.heap ++ u.heap.extract w.heap.size u.heap.size, tape := w.tape, drawn := u.drawn, os := w.os, output := w.output }

theorem below_over (w u : World) : Below w.heap.size w (over w u) :=
  ⟨rfl, rfl, rfl, by simp [over], fun k hk => by simp [over, Array.getElem?_append, hk]⟩

theorem over_eq {w u : World} (h : Below w.heap.size w u) : over w u = u := by
  have hh : w.heap ++ u.heap.extract w.heap.size u.heap.size = u.heap := by
    apply Array.ext_getElem?
    intro i
    rw [Array.getElem?_append]
    split
    · rename_i hi; exact (h.block i hi).symm
    · rename_i hi
      have hs := h.size
      rw [Array.getElem?_extract]
      split
      · rw [show w.heap.size + (i - w.heap.size) = i from by omega]
      · rename_i h2
        rw [Array.getElem?_eq_none (by omega)]
  obtain ⟨heap, tape, drawn, os, output⟩ := u
  unfold over
  simp only [World.mk.injEq, true_and]
  exact ⟨hh, h.tape.symm, h.os.symm, h.output.symm⟩

theorem wp_region_over {P : Program} {id : Nat} {Q : Exit → Act → World → Prop} {a : Act} {w : World} {l : List Oper} (hm : P.follows .mixedOrders = true) (hB : Region.lexB .any l.toArray = true)
    (h : wpQuiet P l.toArray (fun w' => ∃ u, w' = over w u) (fun a' => ∀ w', Below w.heap.size w w' → Q .normal a' w') l a) : (Code.region id l.toArray true).wp P Q a w := by
  refine wp_region_quiet (C := fun w' => ∃ u, w' = over w u) hm hB ⟨_, (over_eq (⟨rfl, rfl, rfl, Nat.le_refl _, fun _ _ => rfl⟩ : Below w.heap.size w { w with drawn := w.drawn + 1 })).symm⟩ ?_
  have hq : (fun a' => ∀ w', Below w.heap.size w w' → Q .normal a' w') = (fun a' => ∀ w', (∃ u, w' = over w u) → Q .normal a' w') := by
    funext a'
    apply propext
    constructor
    · rintro h w' ⟨u, rfl⟩; exact h _ (below_over w u)
    · intro h w' hb; exact h w' ⟨w', (over_eq hb).symm⟩
  rw [hq] at h
  simpa using h

/-- A callee that leaves all that was there as it was, met inside such a region. -/
theorem calls_over {P : Program} {f : FuncId} {args : Array Value} {w n : World} {v : Value}
    (h : Calls P f args (over w n) fun e w' => e = .returned v ∧ Below (over w n).heap.size (over w n) w') : Calls P f args (over w n) fun e w'' => e = .returned v ∧ ∃ m, w'' = over w m :=
  h.mono fun _ w' ⟨he, hb⟩ => ⟨he, w', (over_eq ((below_over w n).trans (hb.mono (below_over w n).size))).symm⟩

theorem calls_same {P : Program} {f : FuncId} {args : Array Value} {w n : World} {v : Value}
    (h : Calls P f args (over w n) fun e w' => e = .returned v ∧ over w n = w') : Calls P f args (over w n) fun e w'' => e = .returned v ∧ ∃ m, w'' = over w m :=
  h.mono fun _ w' ⟨he, hb⟩ => ⟨he, n, hb.symm⟩

/-- Memory that was there reads as it did. -/
theorem cell_over (w : World) : ∀ (u : World) (b o : Nat), b < w.heap.size → (over w u).cell? ⟨b, o, none⟩ = w.cell? ⟨b, o, none⟩ :=
  fun u b o hb => (below_over w u).cell (p := ⟨b, o, none⟩) hb

end Go.Proofs.YtfamhnogpcmbmaaGreatDoor

/-
  Plain lemmas for the laws' own helpers. No program is named here.
-/
namespace Go.Proofs.YtfamhnogpcmbmaaGreatDoor
open Go.RowKit

theorem take_succ_map {α : Type} (d : α) (f : α → Value) (l : List α) (k n : Nat) (z : Value) (hn : l.length = n) (hk : k < n) :
    (((l.take k).map f) ++ List.replicate (n - k) z).set k (f (l[k]?.getD d)) = ((l.take (k + 1)).map f) ++ List.replicate (n - (k + 1)) z := by
  subst hn
  rw [List.take_succ_eq_append_getElem hk, List.map_append, List.append_assoc]
  have hlen : ((l.take k).map f).length = k := by simp; omega
  rw [List.set_append_right _ _ (by omega), hlen, Nat.sub_self, show l.length - k = (l.length - (k + 1)) + 1 from by omega, List.replicate_succ]
  simp [List.getElem?_eq_getElem hk]

theorem beq_len {a b : Nat} (h : a = b) : ((a : Int) != (b : Int)) = false := by simp [h]
theorem bne_len {a b : Nat} (h : ¬ a = b) : ((a : Int) != (b : Int)) = true := by simp; omega

theorem ext_getD {α : Type} (d : α) {la lb : List α} (hl : la.length = lb.length) (h : ∀ i, i < la.length → la[i]?.getD d = lb[i]?.getD d) : la = lb := by
  apply List.ext_getElem hl
  intro i h1 h2
  have := h i h1
  simpa [List.getElem?_eq_getElem h1, List.getElem?_eq_getElem h2] using this

/-- What is left of a number behind t; -1 if that is too little. -/
def lim (t : Nat) (left : Int) : Int := if left < t then -1 else left - t

theorem lim_of_lt {t : Nat} {left : Int} (h : left < t) : lim t left = -1 := if_pos h
theorem lim_of_ge {t : Nat} {left : Int} (h : ¬ left < t) : lim t left = left - t := if_neg h

/-- The elements' own sizes. -/
def sumLen {α : Type} (l : List (List α)) : Nat := (l.map List.length).sum

theorem sumLen_take {α : Type} (l : List (List α)) (k : Nat) (x : List α) (h : l[k]? = some x) : sumLen (l.take (k + 1)) = sumLen (l.take k) + x.length := by
  obtain ⟨hk, rfl⟩ := List.getElem?_eq_some_iff.1 h
  rw [List.take_succ_eq_append_getElem hk]
  simp only [sumLen, List.map_append, List.sum_append, List.map_cons, List.map_nil, List.sum_cons, List.sum_nil, Nat.add_zero]

theorem sumLen_le {α : Type} (l : List (List α)) (k : Nat) : sumLen (l.take k) ≤ sumLen l := by
  conv => rhs; rw [← List.take_append_drop k l]
  simp only [sumLen, List.map_append, List.sum_append]
  omega

theorem sumLen_mem {α : Type} (l : List (List α)) (x : List α) (h : x ∈ l) : x.length ≤ sumLen l := by
  induction l with
  | nil => cases h
  | cons a l ih =>
    simp only [sumLen, List.map_cons, List.sum_cons] at *
    rcases List.mem_cons.1 h with rfl | h
    · omega
    · have := ih h; omega

/-- A slice of elements of several cells that lead nowhere. -/
theorem ow_flats {α : Type} {E : Enc α} {ty : TypeId} {w : World} {v : Value} {l : List α} {base : Nat} (c : α → List Value) (hf : ∀ x, x ∈ l → E.ow w (c x) x []) (h : w.ownsRow base ty E.size v l.length (l.flatMap c)) :
    (sliceE E ty).ow w [v] l v.ownBlock.toList := by
  refine ⟨v, l.map c, l.map fun _ => [], rfl, ?_, ?_, ?_⟩
  · clear h
    induction l with
    | nil => exact .nil
    | cons a l ih => exact .cons (hf a (by simp)) (ih fun x hx => hf x (by simp [hx]))
  · rw [← List.flatMap_def]; exact ownsRow_zero h
  · have : (l.map fun _ => ([] : List Nat)).flatten = [] := by simp
    rw [this, List.append_nil]

theorem makes_flats {α : Type} {E : Enc α} {ty : TypeId} {w wr : World} {v : Value} {l : List α} {g : Nat} (c : α → List Value) (hf : ∀ x, x ∈ l → E.ow wr (c x) x []) (h : wr.ownsRow g ty E.size v l.length (l.flatMap c))
    (hB : Below g w wr) (hg : g = w.heap.size) : Makes (sliceE E ty) id l w (.returned v) wr := by
  subst hg
  refine ⟨v, v.ownBlock.toList, rfl, ow_flats c hf h, nodup_option _, ?_, hB⟩
  intro b hb
  exact (h.lt b (by simpa using hb)).1

theorem flatMap_len {α : Type} (c : α → List Value) (s : Nat) (hc : ∀ x, (c x).length = s) (l : List α) : (l.flatMap c).length = l.length * s := by
  induction l with
  | nil => simp
  | cons a l ih => rw [List.flatMap_cons, List.length_append, ih, hc, List.length_cons, Nat.succ_mul]; omega

theorem flatMap_take {α : Type} (d : α) (c : α → List Value) (l : List α) (k : Nat) (hk : k < l.length) : (l.take (k + 1)).flatMap c = (l.take k).flatMap c ++ c (l[k]?.getD d) := by
  rw [List.take_succ_eq_append_getElem hk, List.flatMap_append]
  simp [List.getElem?_eq_getElem hk]

theorem flatMap_get {α : Type} (d : α) (c : α → List Value) (s : Nat) (hc : ∀ x, (c x).length = s) (l : List α) (k i : Nat) (hk : k < l.length) (hi : i < s) : (l.flatMap c)[k * s + i]? = (c (l[k]?.getD d))[i]? := by
  induction l generalizing k with
  | nil => simp at hk
  | cons a l ih =>
    rw [List.flatMap_cons]
    cases k with
    | zero => simp only [Nat.zero_mul, Nat.zero_add]; rw [List.getElem?_append_left (by rw [hc]; exact hi)]; simp
    | succ k =>
      rw [List.getElem?_append_right (by rw [hc, Nat.succ_mul]; omega), hc, show (k + 1) * s + i - s = k * s + i from by rw [Nat.succ_mul]; omega, ih k (by simpa using hk)]
      simp

theorem flatMap_set {α : Type} (d : α) (c : α → List Value) (s : Nat) (hc : ∀ x, (c x).length = s) (l : List α) (k i : Nat) (u : Value) (x : α) (hk : k < l.length) (hi : i < s) (hx : (c (l[k]?.getD d)).set i u = c x) : (l.flatMap c).set (k * s + i) u = (l.set k x).flatMap c := by
  induction l generalizing k with
  | nil => simp at hk
  | cons a l ih =>
    rw [List.flatMap_cons]
    cases k with
    | zero =>
      simp only [Nat.zero_mul, Nat.zero_add, List.set_cons_zero, List.flatMap_cons]
      rw [List.set_append_left _ _ (by rw [hc]; exact hi)]
      simp at hx
      rw [hx]
    | succ k =>
      rw [List.set_append_right _ _ (by rw [hc, Nat.succ_mul]; omega), hc, show (k + 1) * s + i - s = k * s + i from by rw [Nat.succ_mul]; omega, List.set_cons_succ, List.flatMap_cons]
      rw [ih k (by simpa using hk) (by simpa using hx)]

theorem fill2 (pre : List Value) (m : Nat) (z u0 u1 : Value) : ((pre ++ List.replicate (m + 2) z).set pre.length u0).set (pre.length + 1) u1 = pre ++ [u0, u1] ++ List.replicate m z := by
  rw [List.set_append_right _ _ (Nat.le_refl _), Nat.sub_self, List.replicate_succ, List.replicate_succ, List.set_cons_zero, List.set_append_right _ _ (by omega), show pre.length + 1 - pre.length = 1 from by omega]
  simp

theorem fill3 (pre : List Value) (m : Nat) (z u0 u1 u2 : Value) : (((pre ++ List.replicate (m + 3) z).set pre.length u0).set (pre.length + 1) u1).set (pre.length + 1 + 1) u2 = pre ++ [u0, u1, u2] ++ List.replicate m z := by
  rw [List.set_append_right _ _ (Nat.le_refl _), Nat.sub_self, List.replicate_succ, List.replicate_succ, List.replicate_succ, List.set_cons_zero, List.set_append_right _ _ (by omega), show pre.length + 1 - pre.length = 1 from by omega,
    List.set_cons_succ, List.set_cons_zero, List.set_append_right _ _ (by omega), show pre.length + 1 + 1 - pre.length = 2 from by omega]
  simp

theorem tail_get (pre : List Value) (m i : Nat) (z : Value) (hi : i < m) : (pre ++ List.replicate m z)[pre.length + i]? = some z := by
  rw [List.getElem?_append_right (by omega), show pre.length + i - pre.length = i from by omega, List.getElem?_replicate, if_pos hi]

/-- make([]T, n), T of several cells that are all alike at zero. -/
theorem make_runs {P : Program} {t e : TypeId} {i : TypeInfo} {z : Value} {s : Nat} (ht : P.underlying t = some (.slice e)) (hi : P.info? e = some i) (hz : i.zero = some z) (hs : i.size = s) (n : Nat) (hb : i.bytes * n ≤ 281474976710656) (hn : n ≤ 9223372036854775807) (w : World) :
    (Instr.makeSlice t (.int .i64 (n : Int)) (.int .i64 (n : Int))).run P w = .ok (.slice (some ⟨w.heap.size, 0, none⟩) n n) (w.alloc (.cells (madeCells z.cells (n * s)) e)) := by
  have hb' : (i.bytes : Int) * (n : Int) ≤ 281474976710656 := by
    have h : ((i.bytes * n : Nat) : Int) ≤ 281474976710656 := by omega
    rwa [Int.natCast_mul] at h
  have := run_make w t e i z ht hi hz .i64 .i64 n n (by omega) (by omega) hb' (by omega)
  rw [this]
  simp [hs]

theorem made_alike (zs : Array Value) (z : Value) (hz : ∀ i, i < zs.size → zs[i]? = some z) (hpos : 0 < zs.size) (n : Nat) : (madeCells zs n).toList = List.replicate n z := by
  apply List.ext_getElem?
  intro j
  by_cases hj : j < n
  · have hm : j % zs.size < zs.size := Nat.mod_lt _ hpos
    have := hz _ hm
    rw [Array.getElem?_eq_getElem hm] at this
    simp only [Option.some.injEq] at this
    simp [madeCells, hj, hm, this]
  · simp [madeCells, hj]

theorem made_owns2 {w : World} {ty : TypeId} (zs : Array Value) (z : Value) (s : Nat) (hs : zs.size = s) (hz : ∀ i, i < zs.size → zs[i]? = some z) (hpos : 0 < zs.size) (n : Nat) (hn : n ≤ maxLen) :
    (w.alloc (.cells (madeCells zs (n * s)) ty)).ownsRow w.heap.size ty s (.slice (some ⟨w.heap.size, 0, none⟩) n n) n (List.replicate (n * s) z) := by
  have := World.ownsRow_lit (e := ty) (size := s) w (madeCells zs (n * s)) n (Nat.le_refl _) hn (by simp [size_madeCells])
  rwa [made_alike zs z hz hpos] at this

end Go.Proofs.YtfamhnogpcmbmaaGreatDoor

/-
  Contracts of the laws' own helpers at one slice type (written by a program of this claim's own, gen_leaf.py).
-/
namespace Go.Proofs.YtfamhnogpcmbmaaGreatDoor
open Go.RowKit

theorem info_Int64S : (Tryz.prog.info? 2).map (fun i => (i.zero, i.size, i.bytes)) = some (some (.int .i64 0), 1, 8) := by kernel_rfl

end Go.Proofs.YtfamhnogpcmbmaaGreatDoor

/-
  append at the program's slice types (written by a program of this claim's own, gen_app.py).
-/
namespace Go.Proofs.YtfamhnogpcmbmaaGreatDoor
open Go.RowKit

theorem inf_Int64S : (Tryz.prog.info? 2).map (fun i => (i.zero, i.size, i.bytes)) = some (some (.int .i64 0), 1, 8) := by kernel_rfl

theorem app1_Int64S {w : World} {ops : Array Oper} {rest : List Oper} {o : Oper} {a : Act} {Q : Exit → Act → World → Prop} (hgd : o.guard = none) (s x : Operand)
    (ho : o.op = .call { callee := .builtin .append, args := #[s, x], argTypes := #[92, 92] }) {v : Value} {l : List _} {fp : List Nat} (hv : a.eval s = v) (hown : (sliceE intE 2).ow w [v] l fp) (hn : fp.Nodup)
    {g c : Nat} (hx : a.eval x = .slice (some ⟨g, 0, none⟩) 1 c) {y : _} {cs : List Value} {fy : List Nat} (hc : ∀ j u, cs[j]? = some u → w.cell? ⟨g, j, none⟩ = some u) (h1 : ∀ u, u ∈ cs → u.oneCell' = true) (hy : (intE).ow w cs y fy)
    (hny : fy.Nodup) (hd : ∀ b, b ∈ fy → b ∉ fp) (hlen : l.length ≤ 1000000000000)
    (h : ∀ v' w' fp', (sliceE intE 2).ow w' [v'] (l ++ [y]) fp' → fp'.Nodup → (∀ b, b ∈ fp' → b ∈ fp ∨ b ∈ fy ∨ w.heap.size ≤ b) → But fp w w' → wpList Tryz.prog ops Q rest (a.put o.dst v') w') : wpList Tryz.prog ops Q (o :: rest) a w := by
  obtain ⟨i0, hi, hz0, hz1, hz2⟩ := info_parts inf_Int64S
  exact wpList_append_one (E := intE) (ty := 2) hgd s x _ ho i0 _ _ Tryz.underlying92 hi hz0 hz1 hz2 rfl (by decide) (by decide) hv hown hn hx hc h1 hy hny hd hlen h

theorem appS_Int64S {w : World} {ops : Array Oper} {rest : List Oper} {o : Oper} {a : Act} {Q : Exit → Act → World → Prop} (hgd : o.guard = none) (s x : Operand)
    (ho : o.op = .call { callee := .builtin .append, args := #[s, x], argTypes := #[92, 92] }) {v : Value} {l : List _} {fp : List Nat} (hv : a.eval s = v) (hown : (sliceE intE 2).ow w [v] l fp)
    {ys : List _} {css : List (List Value)} {fys : List (List Nat)} (hys : OwAll (intE) w ys css fys) (hs : SrcS w (intE).size (a.eval x) ys.length css.flatten) (hd : (fp ++ fys.flatten).Nodup) (hlen : l.length + ys.length ≤ 1000000000000)
    (h : ∀ v' w' fp', (sliceE intE 2).ow w' [v'] (l ++ ys) fp' → fp'.Nodup → (∀ b, b ∈ fp' → b ∈ fp ∨ b ∈ fys.flatten ∨ w.heap.size ≤ b) → But fp w w' → wpList Tryz.prog ops Q rest (a.put o.dst v') w') : wpList Tryz.prog ops Q (o :: rest) a w := by
  obtain ⟨i0, hi, hz0, hz1, hz2⟩ := info_parts inf_Int64S
  exact wpList_append_enc (E := intE) (ty := 2) hgd s x _ ho i0 _ _ Tryz.underlying92 hi hz0 hz1 hz2 rfl (by decide) hv hown hys hs hd (by simp only [maxLen]; omega) (by omega) h

theorem inf_BoolS : (Tryz.prog.info? 4).map (fun i => (i.zero, i.size, i.bytes)) = some (some (.bool false), 1, 1) := by kernel_rfl

theorem inf_StringS : (Tryz.prog.info? 9).map (fun i => (i.zero, i.size, i.bytes)) = some (some (.string ByteArray.empty), 1, 16) := by kernel_rfl

theorem app1_StringS {w : World} {ops : Array Oper} {rest : List Oper} {o : Oper} {a : Act} {Q : Exit → Act → World → Prop} (hgd : o.guard = none) (s x : Operand)
    (ho : o.op = .call { callee := .builtin .append, args := #[s, x], argTypes := #[50, 50] }) {v : Value} {l : List _} {fp : List Nat} (hv : a.eval s = v) (hown : (sliceE strE 9).ow w [v] l fp) (hn : fp.Nodup)
    {g c : Nat} (hx : a.eval x = .slice (some ⟨g, 0, none⟩) 1 c) {y : _} {cs : List Value} {fy : List Nat} (hc : ∀ j u, cs[j]? = some u → w.cell? ⟨g, j, none⟩ = some u) (h1 : ∀ u, u ∈ cs → u.oneCell' = true) (hy : (strE).ow w cs y fy)
    (hny : fy.Nodup) (hd : ∀ b, b ∈ fy → b ∉ fp) (hlen : l.length ≤ 1000000000000)
    (h : ∀ v' w' fp', (sliceE strE 9).ow w' [v'] (l ++ [y]) fp' → fp'.Nodup → (∀ b, b ∈ fp' → b ∈ fp ∨ b ∈ fy ∨ w.heap.size ≤ b) → But fp w w' → wpList Tryz.prog ops Q rest (a.put o.dst v') w') : wpList Tryz.prog ops Q (o :: rest) a w := by
  obtain ⟨i0, hi, hz0, hz1, hz2⟩ := info_parts inf_StringS
  exact wpList_append_one (E := strE) (ty := 9) hgd s x _ ho i0 _ _ Tryz.underlying50 hi hz0 hz1 hz2 rfl (by decide) (by decide) hv hown hn hx hc h1 hy hny hd hlen h

theorem appS_StringS {w : World} {ops : Array Oper} {rest : List Oper} {o : Oper} {a : Act} {Q : Exit → Act → World → Prop} (hgd : o.guard = none) (s x : Operand)
    (ho : o.op = .call { callee := .builtin .append, args := #[s, x], argTypes := #[50, 50] }) {v : Value} {l : List _} {fp : List Nat} (hv : a.eval s = v) (hown : (sliceE strE 9).ow w [v] l fp)
    {ys : List _} {css : List (List Value)} {fys : List (List Nat)} (hys : OwAll (strE) w ys css fys) (hs : SrcS w (strE).size (a.eval x) ys.length css.flatten) (hd : (fp ++ fys.flatten).Nodup) (hlen : l.length + ys.length ≤ 1000000000000)
    (h : ∀ v' w' fp', (sliceE strE 9).ow w' [v'] (l ++ ys) fp' → fp'.Nodup → (∀ b, b ∈ fp' → b ∈ fp ∨ b ∈ fys.flatten ∨ w.heap.size ≤ b) → But fp w w' → wpList Tryz.prog ops Q rest (a.put o.dst v') w') : wpList Tryz.prog ops Q (o :: rest) a w := by
  obtain ⟨i0, hi, hz0, hz1, hz2⟩ := info_parts inf_StringS
  exact wpList_append_enc (E := strE) (ty := 9) hgd s x _ ho i0 _ _ Tryz.underlying50 hi hz0 hz1 hz2 rfl (by decide) hv hown hys hs hd (by simp only [maxLen]; omega) (by omega) h

theorem inf_Int64SS : (Tryz.prog.info? 92).map (fun i => (i.zero, i.size, i.bytes)) = some (some (.slice none 0 0), 1, 24) := by kernel_rfl

theorem inf_StringSS : (Tryz.prog.info? 50).map (fun i => (i.zero, i.size, i.bytes)) = some (some (.slice none 0 0), 1, 24) := by kernel_rfl

theorem app1_StringSS {w : World} {ops : Array Oper} {rest : List Oper} {o : Oper} {a : Act} {Q : Exit → Act → World → Prop} (hgd : o.guard = none) (s x : Operand)
    (ho : o.op = .call { callee := .builtin .append, args := #[s, x], argTypes := #[27, 27] }) {v : Value} {l : List _} {fp : List Nat} (hv : a.eval s = v) (hown : (sliceE strsE 50).ow w [v] l fp) (hn : fp.Nodup)
    {g c : Nat} (hx : a.eval x = .slice (some ⟨g, 0, none⟩) 1 c) {y : _} {cs : List Value} {fy : List Nat} (hc : ∀ j u, cs[j]? = some u → w.cell? ⟨g, j, none⟩ = some u) (h1 : ∀ u, u ∈ cs → u.oneCell' = true) (hy : (strsE).ow w cs y fy)
    (hny : fy.Nodup) (hd : ∀ b, b ∈ fy → b ∉ fp) (hlen : l.length ≤ 1000000000000)
    (h : ∀ v' w' fp', (sliceE strsE 50).ow w' [v'] (l ++ [y]) fp' → fp'.Nodup → (∀ b, b ∈ fp' → b ∈ fp ∨ b ∈ fy ∨ w.heap.size ≤ b) → But fp w w' → wpList Tryz.prog ops Q rest (a.put o.dst v') w') : wpList Tryz.prog ops Q (o :: rest) a w := by
  obtain ⟨i0, hi, hz0, hz1, hz2⟩ := info_parts inf_StringSS
  exact wpList_append_one (E := strsE) (ty := 50) hgd s x _ ho i0 _ _ Tryz.underlying27 hi hz0 hz1 hz2 rfl (by decide) (by decide) hv hown hn hx hc h1 hy hny hd hlen h

theorem appS_StringSS {w : World} {ops : Array Oper} {rest : List Oper} {o : Oper} {a : Act} {Q : Exit → Act → World → Prop} (hgd : o.guard = none) (s x : Operand)
    (ho : o.op = .call { callee := .builtin .append, args := #[s, x], argTypes := #[27, 27] }) {v : Value} {l : List _} {fp : List Nat} (hv : a.eval s = v) (hown : (sliceE strsE 50).ow w [v] l fp)
    {ys : List _} {css : List (List Value)} {fys : List (List Nat)} (hys : OwAll (strsE) w ys css fys) (hs : SrcS w (strsE).size (a.eval x) ys.length css.flatten) (hd : (fp ++ fys.flatten).Nodup) (hlen : l.length + ys.length ≤ 1000000000000)
    (h : ∀ v' w' fp', (sliceE strsE 50).ow w' [v'] (l ++ ys) fp' → fp'.Nodup → (∀ b, b ∈ fp' → b ∈ fp ∨ b ∈ fys.flatten ∨ w.heap.size ≤ b) → But fp w w' → wpList Tryz.prog ops Q rest (a.put o.dst v') w') : wpList Tryz.prog ops Q (o :: rest) a w := by
  obtain ⟨i0, hi, hz0, hz1, hz2⟩ := info_parts inf_StringSS
  exact wpList_append_enc (E := strsE) (ty := 50) hgd s x _ ho i0 _ _ Tryz.underlying27 hi hz0 hz1 hz2 rfl (by decide) hv hown hys hs hd (by simp only [maxLen]; omega) (by omega) h

theorem inf_MoveS : (Tryz.prog.info? 75).map (fun i => (i.zero, i.size, i.bytes)) = some (some (.agg #[.int .i64 0, .int .i64 0]), 2, 16) := by kernel_rfl

theorem app1_MoveS {w : World} {ops : Array Oper} {rest : List Oper} {o : Oper} {a : Act} {Q : Exit → Act → World → Prop} (hgd : o.guard = none) (s x : Operand)
    (ho : o.op = .call { callee := .builtin .append, args := #[s, x], argTypes := #[60, 60] }) {v : Value} {l : List _} {fp : List Nat} (hv : a.eval s = v) (hown : (sliceE moveE 75).ow w [v] l fp) (hn : fp.Nodup)
    {g c : Nat} (hx : a.eval x = .slice (some ⟨g, 0, none⟩) 1 c) {y : _} {cs : List Value} {fy : List Nat} (hc : ∀ j u, cs[j]? = some u → w.cell? ⟨g, j, none⟩ = some u) (h1 : ∀ u, u ∈ cs → u.oneCell' = true) (hy : (moveE).ow w cs y fy)
    (hny : fy.Nodup) (hd : ∀ b, b ∈ fy → b ∉ fp) (hlen : l.length ≤ 1000000000000)
    (h : ∀ v' w' fp', (sliceE moveE 75).ow w' [v'] (l ++ [y]) fp' → fp'.Nodup → (∀ b, b ∈ fp' → b ∈ fp ∨ b ∈ fy ∨ w.heap.size ≤ b) → But fp w w' → wpList Tryz.prog ops Q rest (a.put o.dst v') w') : wpList Tryz.prog ops Q (o :: rest) a w := by
  obtain ⟨i0, hi, hz0, hz1, hz2⟩ := info_parts inf_MoveS
  exact wpList_append_one (E := moveE) (ty := 75) hgd s x _ ho i0 _ _ Tryz.underlying60 hi hz0 hz1 hz2 rfl (by decide) (by decide) hv hown hn hx hc h1 hy hny hd hlen h

theorem appS_MoveS {w : World} {ops : Array Oper} {rest : List Oper} {o : Oper} {a : Act} {Q : Exit → Act → World → Prop} (hgd : o.guard = none) (s x : Operand)
    (ho : o.op = .call { callee := .builtin .append, args := #[s, x], argTypes := #[60, 60] }) {v : Value} {l : List _} {fp : List Nat} (hv : a.eval s = v) (hown : (sliceE moveE 75).ow w [v] l fp)
    {ys : List _} {css : List (List Value)} {fys : List (List Nat)} (hys : OwAll (moveE) w ys css fys) (hs : SrcS w (moveE).size (a.eval x) ys.length css.flatten) (hd : (fp ++ fys.flatten).Nodup) (hlen : l.length + ys.length ≤ 1000000000000)
    (h : ∀ v' w' fp', (sliceE moveE 75).ow w' [v'] (l ++ ys) fp' → fp'.Nodup → (∀ b, b ∈ fp' → b ∈ fp ∨ b ∈ fys.flatten ∨ w.heap.size ≤ b) → But fp w w' → wpList Tryz.prog ops Q rest (a.put o.dst v') w') : wpList Tryz.prog ops Q (o :: rest) a w := by
  obtain ⟨i0, hi, hz0, hz1, hz2⟩ := info_parts inf_MoveS
  exact wpList_append_enc (E := moveE) (ty := 75) hgd s x _ ho i0 _ _ Tryz.underlying60 hi hz0 hz1 hz2 rfl (by decide) hv hown hys hs hd (by simp only [maxLen]; omega) (by omega) h

theorem inf_MoveSS : (Tryz.prog.info? 60).map (fun i => (i.zero, i.size, i.bytes)) = some (some (.slice none 0 0), 1, 24) := by kernel_rfl

theorem app1_MoveSS {w : World} {ops : Array Oper} {rest : List Oper} {o : Oper} {a : Act} {Q : Exit → Act → World → Prop} (hgd : o.guard = none) (s x : Operand)
    (ho : o.op = .call { callee := .builtin .append, args := #[s, x], argTypes := #[24, 24] }) {v : Value} {l : List _} {fp : List Nat} (hv : a.eval s = v) (hown : (sliceE movesE 60).ow w [v] l fp) (hn : fp.Nodup)
    {g c : Nat} (hx : a.eval x = .slice (some ⟨g, 0, none⟩) 1 c) {y : _} {cs : List Value} {fy : List Nat} (hc : ∀ j u, cs[j]? = some u → w.cell? ⟨g, j, none⟩ = some u) (h1 : ∀ u, u ∈ cs → u.oneCell' = true) (hy : (movesE).ow w cs y fy)
    (hny : fy.Nodup) (hd : ∀ b, b ∈ fy → b ∉ fp) (hlen : l.length ≤ 1000000000000)
    (h : ∀ v' w' fp', (sliceE movesE 60).ow w' [v'] (l ++ [y]) fp' → fp'.Nodup → (∀ b, b ∈ fp' → b ∈ fp ∨ b ∈ fy ∨ w.heap.size ≤ b) → But fp w w' → wpList Tryz.prog ops Q rest (a.put o.dst v') w') : wpList Tryz.prog ops Q (o :: rest) a w := by
  obtain ⟨i0, hi, hz0, hz1, hz2⟩ := info_parts inf_MoveSS
  exact wpList_append_one (E := movesE) (ty := 60) hgd s x _ ho i0 _ _ Tryz.underlying24 hi hz0 hz1 hz2 rfl (by decide) (by decide) hv hown hn hx hc h1 hy hny hd hlen h

theorem appS_MoveSS {w : World} {ops : Array Oper} {rest : List Oper} {o : Oper} {a : Act} {Q : Exit → Act → World → Prop} (hgd : o.guard = none) (s x : Operand)
    (ho : o.op = .call { callee := .builtin .append, args := #[s, x], argTypes := #[24, 24] }) {v : Value} {l : List _} {fp : List Nat} (hv : a.eval s = v) (hown : (sliceE movesE 60).ow w [v] l fp)
    {ys : List _} {css : List (List Value)} {fys : List (List Nat)} (hys : OwAll (movesE) w ys css fys) (hs : SrcS w (movesE).size (a.eval x) ys.length css.flatten) (hd : (fp ++ fys.flatten).Nodup) (hlen : l.length + ys.length ≤ 1000000000000)
    (h : ∀ v' w' fp', (sliceE movesE 60).ow w' [v'] (l ++ ys) fp' → fp'.Nodup → (∀ b, b ∈ fp' → b ∈ fp ∨ b ∈ fys.flatten ∨ w.heap.size ≤ b) → But fp w w' → wpList Tryz.prog ops Q rest (a.put o.dst v') w') : wpList Tryz.prog ops Q (o :: rest) a w := by
  obtain ⟨i0, hi, hz0, hz1, hz2⟩ := info_parts inf_MoveSS
  exact wpList_append_enc (E := movesE) (ty := 60) hgd s x _ ho i0 _ _ Tryz.underlying24 hi hz0 hz1 hz2 rfl (by decide) hv hown hys hs hd (by simp only [maxLen]; omega) (by omega) h

end Go.Proofs.YtfamhnogpcmbmaaGreatDoor

/-
  Plain lemmas: all that a call holds of its own in one hypothesis ('Star': the blocks of its parts lie apart from each other), what each step does to it, and append (written in part by a program of this claim's own, gen_star.py).
-/
namespace Go.Proofs.YtfamhnogpcmbmaaGreatDoor
open Go.RowKit

/-- No block in common. -/
def Dj (f h : List Nat) : Prop := ∀ b, b ∈ f → b ∉ h

theorem Dj.symm {f h : List Nat} (d : Dj f h) : Dj h f := fun b hb hf => d b hf hb
theorem Dj.nodup {f h : List Nat} (d : Dj f h) (nf : f.Nodup) (nh : h.Nodup) : (f ++ h).Nodup := by
  rw [List.nodup_append]
  exact ⟨nf, nh, fun a ha b hb e => d a ha (e ▸ hb)⟩

/-- A part: what holds of it in a world, with its blocks. -/
structure Ob where
  holds : World → List Nat → Prop
  frame : ∀ {w w' : World} {fp : List Nat}, (∀ b, b ∈ fp → w'.heap[b]? = w.heap[b]?) → holds w fp → holds w' fp

/-- A block with these cells. -/
def oB (b : Nat) (cs : List Value) (ty : TypeId) : Ob := ⟨fun w fp => Blk w b cs ty ∧ fp = [b], fun hf h => ⟨h.1.same (hf b (by rw [h.2]; simp)), h.2⟩⟩

/-- Cells that stand for a value of one's own. -/
def oE {α : Type} (E : Enc α) (cs : List Value) (a : α) : Ob := ⟨fun w fp => E.ow w cs a fp, fun hf h => E.ow_frame hf h⟩

/-- What a call that began in w0 holds of its own in w. -/
def Star (w0 w : World) (ps : List Ob) : Prop :=
  Below w0.heap.size w0 w ∧ ∃ fp : Nat → List Nat, (∀ i P, ps[i]? = some P → P.holds w (fp i) ∧ (fp i).Nodup ∧ ∀ b, b ∈ fp i → w0.heap.size ≤ b ∧ b < w.heap.size) ∧
    ∀ i j, i ≠ j → i < ps.length → j < ps.length → Dj (fp i) (fp j)

section
variable {w0 w w' : World} {ps : List Ob}

theorem Star.nil (w : World) : Star w w [] := ⟨Below.refl _ _, fun _ => [], fun i P h => by simp at h, fun i j _ hi => by simp at hi⟩

theorem Star.below (S : Star w0 w ps) : Below w0.heap.size w0 w := S.1

theorem Star.step (S : Star w0 w ps) (hb : Below w.heap.size w w') : Star w0 w' ps := by
  obtain ⟨B, fp, h, d⟩ := S
  refine ⟨B.trans (hb.mono B.size), fp, fun i P hP => ?_, d⟩
  obtain ⟨h1, h2, h3⟩ := h i P hP
  exact ⟨P.frame (fun b hm => hb.block b (h3 b hm).2) h1, h2, fun b hm => ⟨(h3 b hm).1, Nat.lt_of_lt_of_le (h3 b hm).2 hb.size⟩⟩

theorem Star.push (S : Star w0 w ps) {P : Ob} {f : List Nat} (hb : Below w.heap.size w w') (hP : P.holds w' f) (nd : f.Nodup) (lo : ∀ b, b ∈ f → w.heap.size ≤ b) (hi : ∀ b, b ∈ f → b < w'.heap.size) : Star w0 w' (P :: ps) := by
  obtain ⟨B, fp, h, d⟩ := S
  have hs := B.size
  refine ⟨B.trans (hb.mono hs), fun i => match i with | 0 => f | i + 1 => fp i, fun i Q hQ => ?_, fun i j hij hi hj => ?_⟩
  · cases i with
    | zero =>
      obtain rfl : P = Q := by simpa using hQ
      exact ⟨hP, nd, fun b hm => ⟨Nat.le_trans hs (lo b hm), hi b hm⟩⟩
    | succ i =>
      obtain ⟨h1, h2, h3⟩ := h i Q (by simpa using hQ)
      exact ⟨Q.frame (fun b hm => hb.block b (h3 b hm).2) h1, h2, fun b hm => ⟨(h3 b hm).1, Nat.lt_of_lt_of_le (h3 b hm).2 hb.size⟩⟩
  · have key : ∀ i, i < ps.length → Dj f (fp i) := by
      intro i hi b hb1 hb2
      have := lo b hb1
      have := ((h i _ (List.getElem?_eq_getElem hi)).2.2 b hb2).2
      omega
    cases i with
    | zero =>
      cases j with
      | zero => exact absurd rfl hij
      | succ j => exact key j (by simpa using hj)
    | succ i =>
      cases j with
      | zero => exact (key i (by simpa using hi)).symm
      | succ j => exact d i j (by omega) (by simpa using hi) (by simpa using hj)

theorem Star.alloc (S : Star w0 w ps) {cs : Array Value} {ty : TypeId} : Star w0 (w.alloc (.cells cs ty)) (oB w.heap.size cs.toList ty :: ps) :=
  S.push (f := [w.heap.size]) ((Below.refl _ _).alloc (Nat.le_refl _) _) ⟨Blk.new w cs ty, rfl⟩ (by simp) (fun b hb => by have e : b = w.heap.size := by simpa using hb
                                                                                                                          omega) (fun b hb => by have e : b = w.heap.size := by simpa using hb
                                                                                                                                                 rw [World.size_alloc]; omega)

/-- A call's result, of new memory. -/
theorem Star.made {α : Type} {E : Enc α} {cs : List Value} {a : α} {f : List Nat} (S : Star w0 w ps) (o : E.ow w' cs a f) (nd : f.Nodup) (lo : ∀ b, b ∈ f → w.heap.size ≤ b) (hb : Below w.heap.size w w') : Star w0 w' (oE E cs a :: ps) :=
  S.push (P := oE E cs a) hb o nd lo (E.ow_lt o)

theorem Star.flat {α : Type} {E : Enc α} {cs : List Value} {a : α} (S : Star w0 w ps) (o : E.ow w cs a []) : Star w0 w (oE E cs a :: ps) :=
  S.push (P := oE E cs a) (Below.refl _ _) o List.nodup_nil (fun b hb => by cases hb) (fun b hb => by cases hb)

/-- Some of the parts, in another order. -/
theorem Star.sel (S : Star w0 w ps) (is : List Nat) (hn : is.Nodup := by decide) (hl : ∀ i, i ∈ is → i < ps.length := by simp) : Star w0 w (is.filterMap fun i => ps[i]?) := by
  obtain ⟨B, fp, h, d⟩ := S
  have hf : ∀ is : List Nat, (∀ i, i ∈ is → i < ps.length) → (is.filterMap fun i => ps[i]?).length = is.length ∧ ∀ k : Nat, (is.filterMap fun i => ps[i]?)[k]? = (is[k]?).bind fun i => ps[i]? := by
    intro is
    induction is with
    | nil => intro _; exact ⟨rfl, fun k => by simp⟩
    | cons i is ih =>
      intro hl
      obtain ⟨i1, i2⟩ := ih (fun j hj => hl j (by simp [hj]))
      have hi := hl i (by simp)
      rw [List.filterMap_cons, List.getElem?_eq_getElem hi]
      refine ⟨by simp [i1], fun k => ?_⟩
      cases k with
      | zero => simp [List.getElem?_eq_getElem hi]
      | succ k => simpa using i2 k
  obtain ⟨e1, e2⟩ := hf is hl
  refine ⟨B, fun k => fp (is[k]?.getD 0), fun k P hP => ?_, fun i j hij hi hj => ?_⟩
  · rw [e2] at hP
    cases hk : is[k]? with
    | none => rw [hk] at hP; cases hP
    | some i => rw [hk] at hP; simp only [hk, Option.getD_some]; exact h i P hP
  · rw [e1] at hi hj
    have hi' := hl _ (List.getElem_mem hi)
    have hj' := hl _ (List.getElem_mem hj)
    show Dj (fp (is[i]?.getD 0)) (fp (is[j]?.getD 0))
    rw [List.getElem?_eq_getElem hi, List.getElem?_eq_getElem hj]
    refine d _ _ (fun e => hij ?_) hi' hj'
    have hp := List.pairwise_iff_getElem.1 hn
    rcases Nat.lt_trichotomy i j with hlt | hlt | hlt
    · exact absurd (by simpa using e) (hp i j hi hj hlt)
    · exact hlt
    · exact absurd (by simpa using e.symm) (hp j i hj hi hlt)

/-- One part turns into another; all others are as they were. -/
theorem Star.upd {P P' : Ob} (S : Star w0 w (P :: ps))
    (h : ∀ f, P.holds w f → f.Nodup → (∀ b, b ∈ f → b < w.heap.size) → ∃ f', P'.holds w' f' ∧ f'.Nodup ∧ (∀ b, b ∈ f' → b ∈ f ∨ w.heap.size ≤ b) ∧ (∀ b, b ∈ f' → b < w'.heap.size) ∧ But f w w') : Star w0 w' (P' :: ps) := by
  obtain ⟨B, fp, hh, d⟩ := S
  obtain ⟨p1, p2, p3⟩ := hh 0 P rfl
  obtain ⟨f', q1, q2, q3, q4, bt⟩ := h (fp 0) p1 p2 (fun b hb => (p3 b hb).2)
  have hs := B.size
  have hB : Below w0.heap.size w0 w' := B.trans (bt.below (fun b hb => (p3 b hb).1) hs)
  have hd0 : ∀ i, i < ps.length → Dj f' (fp (i + 1)) := by
    intro i hi b hb1 hb2
    rcases q3 b hb1 with h1 | h1
    · exact d 0 (i + 1) (by omega) (by simp) (by simpa using hi) b h1 hb2
    · have := ((hh (i + 1) _ (by rw [List.getElem?_cons_succ]; exact List.getElem?_eq_getElem hi)).2.2 b hb2).2
      omega
  refine ⟨hB, fun i => match i with | 0 => f' | i + 1 => fp (i + 1), fun i Q hQ => ?_, fun i j hij hi hj => ?_⟩
  · cases i with
    | zero =>
      obtain rfl : P' = Q := by simpa using hQ
      refine ⟨q1, q2, fun b hm => ⟨?_, q4 b hm⟩⟩
      rcases q3 b hm with h1 | h1
      · exact (p3 b h1).1
      · omega
    | succ i =>
      have hQ' : ps[i]? = some Q := by simpa using hQ
      obtain ⟨h1, h2, h3⟩ := hh (i + 1) Q hQ'
      have hil := (List.getElem?_eq_some_iff.1 hQ').1
      refine ⟨Q.frame (fun b hm => bt.block b (h3 b hm).2 (fun hf => ?_)) h1, h2, fun b hm => ⟨(h3 b hm).1, Nat.lt_of_lt_of_le (h3 b hm).2 bt.size⟩⟩
      exact d 0 (i + 1) (by omega) (by simp) (by simpa using hil) b hf hm
  · cases i with
    | zero =>
      cases j with
      | zero => exact absurd rfl hij
      | succ j => exact hd0 j (by simpa using hj)
    | succ i =>
      cases j with
      | zero => exact (hd0 i (by simpa using hi)).symm
      | succ j => exact d (i + 1) (j + 1) (by omega) hi hj

/-- Two parts turn into one. -/
theorem Star.join {P Q R : Ob} (S : Star w0 w (P :: Q :: ps)) (h : ∀ f g, P.holds w f → Q.holds w g → R.holds w (f ++ g)) : Star w0 w (R :: ps) := by
  obtain ⟨B, fp, hh, d⟩ := S
  obtain ⟨p1, p2, p3⟩ := hh 0 P rfl
  obtain ⟨q1, q2, q3⟩ := hh 1 Q rfl
  have hd0 : ∀ i, i < ps.length → Dj (fp 0 ++ fp 1) (fp (i + 2)) := by
    intro i hi b hb1 hb2
    rcases List.mem_append.1 hb1 with h1 | h1
    · exact d 0 (i + 2) (by omega) (by simp) (by simpa using hi) b h1 hb2
    · exact d 1 (i + 2) (by omega) (by simp) (by simpa using hi) b h1 hb2
  refine ⟨B, fun i => match i with | 0 => fp 0 ++ fp 1 | i + 1 => fp (i + 2), fun i Q hQ => ?_, fun i j hij hi hj => ?_⟩
  · cases i with
    | zero =>
      obtain rfl : R = Q := by simpa using hQ
      refine ⟨h _ _ p1 q1, (d 0 1 (by omega) (by simp) (by simp)).nodup p2 q2, fun b hm => ?_⟩
      rcases List.mem_append.1 hm with h1 | h1
      · exact p3 b h1
      · exact q3 b h1
    | succ i => exact hh (i + 2) Q (by simpa using hQ)
  · cases i with
    | zero =>
      cases j with
      | zero => exact absurd rfl hij
      | succ j => exact hd0 j (by simpa using hj)
    | succ i =>
      cases j with
      | zero => exact (hd0 i (by simpa using hi)).symm
      | succ j => exact d (i + 2) (j + 2) (by omega) (by simpa using hi) (by simpa using hj)

theorem Star.set {b : Nat} {cs : List Value} {ty : TypeId} (S : Star w0 w (oB b cs ty :: ps)) (i : Nat) (v : Value) : Star w0 (w.setCell ⟨b, i, none⟩ v) (oB b (cs.set i v) ty :: ps) :=
  S.upd fun f hf _ hl => ⟨f, ⟨hf.1.set i v, hf.2⟩, by rw [hf.2]; simp, fun b hb => .inl hb, fun b hb => by simpa using hl b hb, by rw [hf.2]; exact (But.refl _ _).setCell (by simp) _⟩

theorem Star.set4 {b : Nat} {cs : List Value} {ty : TypeId} {v0 v1 v2 v3 : Value} (S : Star w0 w (oB b cs ty :: ps)) (hl : cs.length = 4) (hW : (((w.setCell ⟨b, 0, none⟩ v0).setCell ⟨b, 1, none⟩ v1).setCell ⟨b, 2, none⟩ v2).setCell ⟨b, 3, none⟩ v3 = w') :
    Star w0 w' (oB b [v0, v1, v2, v3] ty :: ps) := by
  subst hW
  match cs, hl with
  | [_, _, _, _], _ => exact (((S.set 0 v0).set 1 v1).set 2 v2).set 3 v3

theorem Star.set3 {b : Nat} {cs : List Value} {ty : TypeId} {v0 v1 v2 : Value} (S : Star w0 w (oB b cs ty :: ps)) (hl : cs.length = 3) (hW : ((w.setCell ⟨b, 0, none⟩ v0).setCell ⟨b, 1, none⟩ v1).setCell ⟨b, 2, none⟩ v2 = w') :
    Star w0 w' (oB b [v0, v1, v2] ty :: ps) := by
  subst hW
  match cs, hl with
  | [_, _, _], _ => exact ((S.set 0 v0).set 1 v1).set 2 v2

theorem Star.blk (S : Star w0 w ps) (n : Nat) {b : Nat} {cs : List Value} {ty : TypeId} (h : ps[n]? = some (oB b cs ty)) : Blk w b cs ty := by
  obtain ⟨_, fp, hh, _⟩ := S
  exact (hh n _ h).1.1

theorem Star.own (S : Star w0 w ps) (n : Nat) {α : Type} {E : Enc α} {cs : List Value} {a : α} (h : ps[n]? = some (oE E cs a)) : ∃ f, E.ow w cs a f := by
  obtain ⟨_, fp, hh, _⟩ := S
  exact ⟨fp n, (hh n _ h).1⟩

theorem Star.rd (S : Star w0 w ps) (n : Nat) {α : Type} {E : Enc α} {cs : List Value} {a : α} (h : ps[n]? = some (oE E cs a)) : E.rd w w.heap.size cs a := by
  obtain ⟨f, o⟩ := S.own n h
  exact E.rd_ow o

theorem Star.slc (S : Star w0 w ps) (n : Nat) {α : Type} {E : Enc α} {t : TypeId} {v : Value} {a : List α} (h : ps[n]? = some (oE (sliceE E t) [v] a)) : ∃ sa sn sc, v = .slice sa sn sc := by
  obtain ⟨f, o⟩ := S.own n h
  exact ow_slice o

/-- What has just been written into a block, as a slice. -/
theorem Star.lit {α : Type} {E : Enc α} {ty : TypeId} {g : Nat} {vs : List Value} (S : Star w0 w (oB g vs ty :: ps)) (l : List α) (f : α → Value) (hv : vs = l.map f) (hE : E.size = 1) (hf : ∀ x, x ∈ l → E.ow w [f x] x []) (hl : l.length ≤ maxLen) :
    Star w0 w (oE (sliceE E ty) [.slice (some ⟨g, 0, none⟩) l.length l.length] l :: ps) :=
  S.upd fun q hq _ hlt => ⟨q, by rw [hq.2]; exact ow_lit f hE hf (hv ▸ hq.1) hl, by rw [hq.2]; simp, fun b hb => .inl hb, hlt, But.refl _ _⟩

theorem Star.lit0 {α : Type} {E : Enc α} {ty : TypeId} {g : Nat} (S : Star w0 w (oB g [] ty :: ps)) : Star w0 w (oE (sliceE E ty) [.slice (some ⟨g, 0, none⟩) 0 0] ([] : List α) :: ps) :=
  S.upd fun q hq _ hlt => ⟨q, by rw [hq.2]; exact ⟨_, [], [], rfl, .nil, ⟨by simp, .inr ⟨g, 0, #[], rfl, Nat.zero_le _, hq.1, Nat.le_refl _, Nat.zero_le _, by simp, by simp⟩⟩, by simp [Value.ownBlock]⟩, by rw [hq.2]; simp, fun b hb => .inl hb, hlt, But.refl _ _⟩

theorem Star.int (S : Star w0 w ps) {x : Int} (h : -9223372036854775808 ≤ x ∧ x ≤ 9223372036854775807) : Star w0 w (oE intE [Value.int .i64 x] x :: ps) := S.flat ⟨⟨rfl, h⟩, rfl⟩
theorem Star.bool (S : Star w0 w ps) {x : Bool} : Star w0 w (oE boolE [Value.bool x] x :: ps) := S.flat ⟨rfl, rfl⟩
theorem Star.str (S : Star w0 w ps) {x : ByteArray} (h : x.size ≤ maxLen) : Star w0 w (oE strE [Value.string x] x :: ps) := S.flat ⟨⟨rfl, h⟩, rfl⟩
theorem Star.move (S : Star w0 w ps) {x y : Int} (h : -9223372036854775808 ≤ x ∧ x ≤ 9223372036854775807) (k : -9223372036854775808 ≤ y ∧ y ≤ 9223372036854775807) : Star w0 w (oE moveE [Value.int .i64 x, Value.int .i64 y] ⟨x, y⟩ :: ps) :=
  S.flat ⟨[_], [_], [], [], rfl, rfl, ⟨⟨rfl, h⟩, rfl⟩, ⟨⟨rfl, k⟩, rfl⟩⟩
theorem Star.pmove (S : Star w0 w ps) {x y z : Int} (h : -9223372036854775808 ≤ x ∧ x ≤ 9223372036854775807) (k : -9223372036854775808 ≤ y ∧ y ≤ 9223372036854775807) (m : -9223372036854775808 ≤ z ∧ z ≤ 9223372036854775807) :
    Star w0 w (oE pmoveE [Value.int .i64 x, Value.int .i64 y, Value.int .i64 z] ⟨x, y, z⟩ :: ps) :=
  S.flat ⟨[_], [_, _], [], [], rfl, rfl, ⟨⟨rfl, h⟩, rfl⟩, ⟨[_], [_], [], [], rfl, rfl, ⟨⟨rfl, k⟩, rfl⟩, ⟨⟨rfl, m⟩, rfl⟩⟩⟩
theorem Star.nils {α : Type} (E : Enc α) (ty : TypeId) (S : Star w0 w ps) : Star w0 w (oE (sliceE E ty) [.slice none 0 0] [] :: ps) := S.flat (ow_nil E ty w)

/-- Two fields side by side. -/
theorem Star.pair {α β : Type} {E : Enc α} {F : Enc β} {c1 c2 : List Value} {x : α} {y : β} (S : Star w0 w (oE E c1 x :: oE F c2 y :: ps)) : Star w0 w (oE (pairE E F) (c1 ++ c2) (x, y) :: ps) :=
  S.join fun f g h1 h2 => ⟨c1, c2, f, g, rfl, rfl, h1, h2⟩

theorem Star.via {α β : Type} {E : Enc β} {F : α → β} {cs : List Value} {y : β} (S : Star w0 w (oE E cs y :: ps)) (x : α) (h : F x = y) : Star w0 w (oE (viaE E F) cs x :: ps) :=
  S.upd fun q hq hn hlt => ⟨q, (by show E.ow w cs (F x) q; rw [h]; exact hq), hn, fun b hb => .inl hb, hlt, But.refl _ _⟩

/-- What is handed back. -/
theorem Star.out {α : Type} {E : Enc α} {cs : List Value} {a : α} (S : Star w0 w (oE E cs a :: ps)) : ∃ f, E.ow w cs a f ∧ f.Nodup ∧ ∀ b, b ∈ f → w0.heap.size ≤ b := by
  obtain ⟨_, fp, hh, _⟩ := S
  obtain ⟨h1, h2, h3⟩ := hh 0 _ rfl
  exact ⟨_, h1, h2, fun b hb => (h3 b hb).1⟩

theorem Star.done {α : Type} {E : Enc α} {cs : List Value} {x : α × Int} (S : Star w0 w (oE E cs x.1 :: ps)) : MakesC E x w0 (.returned (.tuple #[.agg cs.toArray, .int .i64 x.2])) w := by
  obtain ⟨f, h1, h2, h3⟩ := S.out
  exact ⟨cs, f, rfl, h1, h2, h3, S.below⟩

theorem Star.done1 {α : Type} {E : Enc α} {v : Value} {x : α} (S : Star w0 w (oE E [v] x :: ps)) : Makes E id x w0 (.returned v) w := by
  obtain ⟨f, h1, h2, h3⟩ := S.out
  exact ⟨v, f, rfl, h1, h2, h3, S.below⟩
end

theorem cell_a1 {w : World} {cs : List Value} {ty : TypeId} : ∀ j u, cs[j]? = some u → (w.alloc (.cells cs.toArray ty)).cell? ⟨w.heap.size, j, none⟩ = some u := fun j _ hu => (Blk.new w cs.toArray ty).cell j (by simpa using hu)
theorem cell_a2 {w : World} {o : Obj} {cs : List Value} {ty : TypeId} : ∀ j u, cs[j]? = some u → ((w.alloc o).alloc (.cells cs.toArray ty)).cell? ⟨w.heap.size + 1, j, none⟩ = some u := fun j _ hu => by
  have := (Blk.new (w.alloc o) cs.toArray ty).cell j (v := _) (by simpa using hu)
  simpa using this
theorem cell_a3 {w : World} {o p : Obj} {cs : List Value} {ty : TypeId} : ∀ j u, cs[j]? = some u → (((w.alloc o).alloc p).alloc (.cells cs.toArray ty)).cell? ⟨w.heap.size + 1 + 1, j, none⟩ = some u := fun j _ hu => by
  have := (Blk.new ((w.alloc o).alloc p) cs.toArray ty).cell j (v := _) (by simpa using hu)
  simpa using this

theorem cell_s1 {w : World} {a : Addr} {v : Value} {cs : List Value} {ty : TypeId} : ∀ j u, cs[j]? = some u → ((w.setCell a v).alloc (.cells cs.toArray ty)).cell? ⟨w.heap.size, j, none⟩ = some u := fun j _ hu => by
  have := (Blk.new (w.setCell a v) cs.toArray ty).cell j (v := _) (by simpa using hu)
  simpa using this

theorem int_in (x : Int) (h : -9223372036854775808 ≤ x ∧ x ≤ 9223372036854775807) (w : World) : ∀ y, y ∈ [x] → intE.ow w [Value.int .i64 y] y [] := fun y hy => by
  have e : y = x := by simpa using hy
  subst e; exact ⟨⟨rfl, h⟩, rfl⟩
theorem int_in2 (x y : Int) (h : -9223372036854775808 ≤ x ∧ x ≤ 9223372036854775807) (k : -9223372036854775808 ≤ y ∧ y ≤ 9223372036854775807) (w : World) : ∀ z, z ∈ [x, y] → intE.ow w [Value.int .i64 z] z [] := fun z hz => by
  rcases List.mem_cons.1 hz with e | e
  · subst e; exact ⟨⟨rfl, h⟩, rfl⟩
  · have e : z = y := by simpa using e
    subst e; exact ⟨⟨rfl, k⟩, rfl⟩

theorem one_mem2 {v u : Value} (h : v.oneCell' = true) (k : u.oneCell' = true) : ∀ x, x ∈ [v, u] → x.oneCell' = true := by
  intro x hx
  rcases List.mem_cons.1 hx with e | e
  · rw [e]; exact h
  · exact one_mem k x e
theorem one_mem3 {v u t : Value} (h : v.oneCell' = true) (k : u.oneCell' = true) (m : t.oneCell' = true) : ∀ x, x ∈ [v, u, t] → x.oneCell' = true := by
  intro x hx
  rcases List.mem_cons.1 hx with e | e
  · rw [e]; exact h
  · exact one_mem2 k m x e

theorem take_range_map {α : Type} (f : Nat → α) (n k : Nat) (h : k < n) : ((List.range n).map f).take (k + 1) = ((List.range n).map f).take k ++ [f k] := by
  rw [List.take_succ_eq_append_getElem (by simpa using h)]
  simp

theorem take_range_all {α : Type} (f : Nat → α) (n : Nat) : ((List.range n).map f).take n = (List.range n).map f := List.take_of_length_le (by simp)

theorem take_range_len {α : Type} (f : Nat → α) (n k : Nat) (h : k ≤ n) : (((List.range n).map f).take k).length = k := by simp; omega

theorem take_map_succ {α β : Type} (d : α) (f : α → β) (l : List α) (k : Nat) (h : k < l.length) : (l.take (k + 1)).map f = (l.take k).map f ++ [f (l[k]?.getD d)] := by
  rw [List.take_succ_eq_append_getElem h, List.map_append]
  simp [List.getElem?_eq_getElem h]

theorem sum_map_le {α : Type} (f : α → Nat) (c : Nat) (l : List α) (h : ∀ x, x ∈ l → f x ≤ c) : (l.map f).sum ≤ l.length * c := by
  induction l with
  | nil => simp
  | cons a l ih =>
    rw [List.map_cons, List.sum_cons, List.length_cons, Nat.succ_mul]
    have := h a (by simp); have := ih (fun x hx => h x (by simp [hx])); omega

/-- append of one element, itself a part, to a slice of Int. -/
theorem st1_Int64S {w0 w : World} {ps : List Ob} {ops : Array Oper} {rest : List Oper} {o : Oper} {a : Act} {Q : Exit → Act → World → Prop} {s x : Operand} {v : Value} {l : List (Int)} {b c : Nat} {y : Int} {cs : List Value}
    (S : Star w0 w (oE (sliceE intE 2) [v] l :: oE intE cs y :: ps)) (hgd : o.guard = none)
    (ho : o.op = .call { callee := .builtin .append, args := #[s, x], argTypes := #[92, 92] }) (hv : a.eval s = v)
    (hx : a.eval x = .slice (some ⟨b, 0, none⟩) 1 c) (hc : ∀ j u, cs[j]? = some u → w.cell? ⟨b, j, none⟩ = some u) (h1 : ∀ u, u ∈ cs → u.oneCell' = true) (hlen : l.length ≤ 1000000000000)
    (h : ∀ sa sn sc w', Star w0 w' (oE (sliceE intE 2) [.slice sa sn sc] (l ++ [y]) :: ps) → wpList Tryz.prog ops Q rest (a.put o.dst (.slice sa sn sc)) w') : wpList Tryz.prog ops Q (o :: rest) a w := by
  obtain ⟨B, fp, hh, d⟩ := S
  obtain ⟨p1, p2, p3⟩ := hh 0 _ rfl
  obtain ⟨q1, q2, q3⟩ := hh 1 _ rfl
  have d01 := d 1 0 (by omega) (by simp) (by simp)
  refine app1_Int64S hgd s x ho hv p1 p2 hx hc h1 q1 q2 d01 hlen (fun v' w' fp' k1 k2 k3 k4 => ?_)
  obtain ⟨sa, sn, sc, rfl⟩ := ow_slice k1
  refine h sa sn sc w' ⟨B.trans (k4.below (fun b hb => (p3 b hb).1) B.size), fun i => match i with | 0 => fp' | i + 1 => fp (i + 2), fun i Q hQ => ?_, fun i j hij hi hj => ?_⟩
  · cases i with
    | zero =>
      obtain rfl : _ = Q := by simpa using hQ
      refine ⟨k1, k2, fun b hm => ⟨?_, Enc.ow_lt _ k1 b hm⟩⟩
      rcases k3 b hm with h1 | h1 | h1
      · exact (p3 b h1).1
      · exact (q3 b h1).1
      · have := B.size; omega
    | succ i =>
      have hQ' : ps[i]? = some Q := by simpa using hQ
      obtain ⟨h1, h2, h3⟩ := hh (i + 2) Q hQ'
      have hil := (List.getElem?_eq_some_iff.1 hQ').1
      refine ⟨Q.frame (fun b hm => k4.block b (h3 b hm).2 (fun hf => ?_)) h1, h2, fun b hm => ⟨(h3 b hm).1, Nat.lt_of_lt_of_le (h3 b hm).2 k4.size⟩⟩
      exact d 0 (i + 2) (by omega) (by simp) (by simpa using hil) b hf hm
  · have hd0 : ∀ i, i < ps.length → Dj fp' (fp (i + 2)) := by
      intro i hi b hb1 hb2
      rcases k3 b hb1 with h1 | h1 | h1
      · exact d 0 (i + 2) (by omega) (by simp) (by simpa using hi) b h1 hb2
      · exact d 1 (i + 2) (by omega) (by simp) (by simpa using hi) b h1 hb2
      · have := ((hh (i + 2) _ (by rw [List.getElem?_cons_succ, List.getElem?_cons_succ]; exact List.getElem?_eq_getElem hi)).2.2 b hb2).2
        omega
    cases i with
    | zero =>
      cases j with
      | zero => exact absurd rfl hij
      | succ j => exact hd0 j (by simpa using hj)
    | succ i =>
      cases j with
      | zero => exact (hd0 i (by simpa using hi)).symm
      | succ j => exact d (i + 2) (j + 2) (by omega) (by simpa using hi) (by simpa using hj)

/-- append of several elements that lead nowhere. -/
theorem stS_Int64S {w0 w : World} {ps : List Ob} {ops : Array Oper} {rest : List Oper} {o : Oper} {a : Act} {Q : Exit → Act → World → Prop} {s x : Operand} {v : Value} {l : List (Int)} {ys : List (Int)} {css : List (List Value)} {fys : List (List Nat)}
    (S : Star w0 w (oE (sliceE intE 2) [v] l :: ps)) (hgd : o.guard = none)
    (ho : o.op = .call { callee := .builtin .append, args := #[s, x], argTypes := #[92, 92] }) (hv : a.eval s = v)
    (hys : OwAll (intE) w ys css fys) (hfy : fys.flatten = []) (hs : SrcS w (intE).size (a.eval x) ys.length css.flatten) (hlen : l.length + ys.length ≤ 1000000000000)
    (h : ∀ sa sn sc w', Star w0 w' (oE (sliceE intE 2) [.slice sa sn sc] (l ++ ys) :: ps) → wpList Tryz.prog ops Q rest (a.put o.dst (.slice sa sn sc)) w') : wpList Tryz.prog ops Q (o :: rest) a w := by
  obtain ⟨B, fp, hh, d⟩ := S
  obtain ⟨p1, p2, p3⟩ := hh 0 _ rfl
  refine appS_Int64S hgd s x ho hv p1 hys hs (by rw [hfy, List.append_nil]; exact p2) hlen (fun v' w' fp' k1 k2 k3 k4 => ?_)
  rw [hfy] at k3
  obtain ⟨sa, sn, sc, rfl⟩ := ow_slice k1
  refine h sa sn sc w' ⟨B.trans (k4.below (fun b hb => (p3 b hb).1) B.size), fun i => match i with | 0 => fp' | i + 1 => fp (i + 1), fun i Q hQ => ?_, fun i j hij hi hj => ?_⟩
  · cases i with
    | zero =>
      obtain rfl : _ = Q := by simpa using hQ
      refine ⟨k1, k2, fun b hm => ⟨?_, Enc.ow_lt _ k1 b hm⟩⟩
      rcases k3 b hm with h1 | h1 | h1
      · exact (p3 b h1).1
      · cases h1
      · have := B.size; omega
    | succ i =>
      have hQ' : ps[i]? = some Q := by simpa using hQ
      obtain ⟨h1, h2, h3⟩ := hh (i + 1) Q hQ'
      have hil := (List.getElem?_eq_some_iff.1 hQ').1
      refine ⟨Q.frame (fun b hm => k4.block b (h3 b hm).2 (fun hf => ?_)) h1, h2, fun b hm => ⟨(h3 b hm).1, Nat.lt_of_lt_of_le (h3 b hm).2 k4.size⟩⟩
      exact d 0 (i + 1) (by omega) (by simp) (by simpa using hil) b hf hm
  · have hd0 : ∀ i, i < ps.length → Dj fp' (fp (i + 1)) := by
      intro i hi b hb1 hb2
      rcases k3 b hb1 with h1 | h1 | h1
      · exact d 0 (i + 1) (by omega) (by simp) (by simpa using hi) b h1 hb2
      · cases h1
      · have := ((hh (i + 1) _ (by rw [List.getElem?_cons_succ]; exact List.getElem?_eq_getElem hi)).2.2 b hb2).2
        omega
    cases i with
    | zero =>
      cases j with
      | zero => exact absurd rfl hij
      | succ j => exact hd0 j (by simpa using hj)
    | succ i =>
      cases j with
      | zero => exact (hd0 i (by simpa using hi)).symm
      | succ j => exact d (i + 1) (j + 1) (by omega) (by simpa using hi) (by simpa using hj)

/-- append of one element, itself a part, to a slice of ByteArray. -/
theorem st1_StringS {w0 w : World} {ps : List Ob} {ops : Array Oper} {rest : List Oper} {o : Oper} {a : Act} {Q : Exit → Act → World → Prop} {s x : Operand} {v : Value} {l : List (ByteArray)} {b c : Nat} {y : ByteArray} {cs : List Value}
    (S : Star w0 w (oE (sliceE strE 9) [v] l :: oE strE cs y :: ps)) (hgd : o.guard = none)
    (ho : o.op = .call { callee := .builtin .append, args := #[s, x], argTypes := #[50, 50] }) (hv : a.eval s = v)
    (hx : a.eval x = .slice (some ⟨b, 0, none⟩) 1 c) (hc : ∀ j u, cs[j]? = some u → w.cell? ⟨b, j, none⟩ = some u) (h1 : ∀ u, u ∈ cs → u.oneCell' = true) (hlen : l.length ≤ 1000000000000)
    (h : ∀ sa sn sc w', Star w0 w' (oE (sliceE strE 9) [.slice sa sn sc] (l ++ [y]) :: ps) → wpList Tryz.prog ops Q rest (a.put o.dst (.slice sa sn sc)) w') : wpList Tryz.prog ops Q (o :: rest) a w := by
  obtain ⟨B, fp, hh, d⟩ := S
  obtain ⟨p1, p2, p3⟩ := hh 0 _ rfl
  obtain ⟨q1, q2, q3⟩ := hh 1 _ rfl
  have d01 := d 1 0 (by omega) (by simp) (by simp)
  refine app1_StringS hgd s x ho hv p1 p2 hx hc h1 q1 q2 d01 hlen (fun v' w' fp' k1 k2 k3 k4 => ?_)
  obtain ⟨sa, sn, sc, rfl⟩ := ow_slice k1
  refine h sa sn sc w' ⟨B.trans (k4.below (fun b hb => (p3 b hb).1) B.size), fun i => match i with | 0 => fp' | i + 1 => fp (i + 2), fun i Q hQ => ?_, fun i j hij hi hj => ?_⟩
  · cases i with
    | zero =>
      obtain rfl : _ = Q := by simpa using hQ
      refine ⟨k1, k2, fun b hm => ⟨?_, Enc.ow_lt _ k1 b hm⟩⟩
      rcases k3 b hm with h1 | h1 | h1
      · exact (p3 b h1).1
      · exact (q3 b h1).1
      · have := B.size; omega
    | succ i =>
      have hQ' : ps[i]? = some Q := by simpa using hQ
      obtain ⟨h1, h2, h3⟩ := hh (i + 2) Q hQ'
      have hil := (List.getElem?_eq_some_iff.1 hQ').1
      refine ⟨Q.frame (fun b hm => k4.block b (h3 b hm).2 (fun hf => ?_)) h1, h2, fun b hm => ⟨(h3 b hm).1, Nat.lt_of_lt_of_le (h3 b hm).2 k4.size⟩⟩
      exact d 0 (i + 2) (by omega) (by simp) (by simpa using hil) b hf hm
  · have hd0 : ∀ i, i < ps.length → Dj fp' (fp (i + 2)) := by
      intro i hi b hb1 hb2
      rcases k3 b hb1 with h1 | h1 | h1
      · exact d 0 (i + 2) (by omega) (by simp) (by simpa using hi) b h1 hb2
      · exact d 1 (i + 2) (by omega) (by simp) (by simpa using hi) b h1 hb2
      · have := ((hh (i + 2) _ (by rw [List.getElem?_cons_succ, List.getElem?_cons_succ]; exact List.getElem?_eq_getElem hi)).2.2 b hb2).2
        omega
    cases i with
    | zero =>
      cases j with
      | zero => exact absurd rfl hij
      | succ j => exact hd0 j (by simpa using hj)
    | succ i =>
      cases j with
      | zero => exact (hd0 i (by simpa using hi)).symm
      | succ j => exact d (i + 2) (j + 2) (by omega) (by simpa using hi) (by simpa using hj)

/-- append of several elements that lead nowhere. -/
theorem stS_StringS {w0 w : World} {ps : List Ob} {ops : Array Oper} {rest : List Oper} {o : Oper} {a : Act} {Q : Exit → Act → World → Prop} {s x : Operand} {v : Value} {l : List (ByteArray)} {ys : List (ByteArray)} {css : List (List Value)} {fys : List (List Nat)}
    (S : Star w0 w (oE (sliceE strE 9) [v] l :: ps)) (hgd : o.guard = none)
    (ho : o.op = .call { callee := .builtin .append, args := #[s, x], argTypes := #[50, 50] }) (hv : a.eval s = v)
    (hys : OwAll (strE) w ys css fys) (hfy : fys.flatten = []) (hs : SrcS w (strE).size (a.eval x) ys.length css.flatten) (hlen : l.length + ys.length ≤ 1000000000000)
    (h : ∀ sa sn sc w', Star w0 w' (oE (sliceE strE 9) [.slice sa sn sc] (l ++ ys) :: ps) → wpList Tryz.prog ops Q rest (a.put o.dst (.slice sa sn sc)) w') : wpList Tryz.prog ops Q (o :: rest) a w := by
  obtain ⟨B, fp, hh, d⟩ := S
  obtain ⟨p1, p2, p3⟩ := hh 0 _ rfl
  refine appS_StringS hgd s x ho hv p1 hys hs (by rw [hfy, List.append_nil]; exact p2) hlen (fun v' w' fp' k1 k2 k3 k4 => ?_)
  rw [hfy] at k3
  obtain ⟨sa, sn, sc, rfl⟩ := ow_slice k1
  refine h sa sn sc w' ⟨B.trans (k4.below (fun b hb => (p3 b hb).1) B.size), fun i => match i with | 0 => fp' | i + 1 => fp (i + 1), fun i Q hQ => ?_, fun i j hij hi hj => ?_⟩
  · cases i with
    | zero =>
      obtain rfl : _ = Q := by simpa using hQ
      refine ⟨k1, k2, fun b hm => ⟨?_, Enc.ow_lt _ k1 b hm⟩⟩
      rcases k3 b hm with h1 | h1 | h1
      · exact (p3 b h1).1
      · cases h1
      · have := B.size; omega
    | succ i =>
      have hQ' : ps[i]? = some Q := by simpa using hQ
      obtain ⟨h1, h2, h3⟩ := hh (i + 1) Q hQ'
      have hil := (List.getElem?_eq_some_iff.1 hQ').1
      refine ⟨Q.frame (fun b hm => k4.block b (h3 b hm).2 (fun hf => ?_)) h1, h2, fun b hm => ⟨(h3 b hm).1, Nat.lt_of_lt_of_le (h3 b hm).2 k4.size⟩⟩
      exact d 0 (i + 1) (by omega) (by simp) (by simpa using hil) b hf hm
  · have hd0 : ∀ i, i < ps.length → Dj fp' (fp (i + 1)) := by
      intro i hi b hb1 hb2
      rcases k3 b hb1 with h1 | h1 | h1
      · exact d 0 (i + 1) (by omega) (by simp) (by simpa using hi) b h1 hb2
      · cases h1
      · have := ((hh (i + 1) _ (by rw [List.getElem?_cons_succ]; exact List.getElem?_eq_getElem hi)).2.2 b hb2).2
        omega
    cases i with
    | zero =>
      cases j with
      | zero => exact absurd rfl hij
      | succ j => exact hd0 j (by simpa using hj)
    | succ i =>
      cases j with
      | zero => exact (hd0 i (by simpa using hi)).symm
      | succ j => exact d (i + 1) (j + 1) (by omega) (by simpa using hi) (by simpa using hj)

/-- append of one element, itself a part, to a slice of List ByteArray. -/
theorem st1_StringSS {w0 w : World} {ps : List Ob} {ops : Array Oper} {rest : List Oper} {o : Oper} {a : Act} {Q : Exit → Act → World → Prop} {s x : Operand} {v : Value} {l : List (List ByteArray)} {b c : Nat} {y : List ByteArray} {cs : List Value}
    (S : Star w0 w (oE (sliceE strsE 50) [v] l :: oE strsE cs y :: ps)) (hgd : o.guard = none)
    (ho : o.op = .call { callee := .builtin .append, args := #[s, x], argTypes := #[27, 27] }) (hv : a.eval s = v)
    (hx : a.eval x = .slice (some ⟨b, 0, none⟩) 1 c) (hc : ∀ j u, cs[j]? = some u → w.cell? ⟨b, j, none⟩ = some u) (h1 : ∀ u, u ∈ cs → u.oneCell' = true) (hlen : l.length ≤ 1000000000000)
    (h : ∀ sa sn sc w', Star w0 w' (oE (sliceE strsE 50) [.slice sa sn sc] (l ++ [y]) :: ps) → wpList Tryz.prog ops Q rest (a.put o.dst (.slice sa sn sc)) w') : wpList Tryz.prog ops Q (o :: rest) a w := by
  obtain ⟨B, fp, hh, d⟩ := S
  obtain ⟨p1, p2, p3⟩ := hh 0 _ rfl
  obtain ⟨q1, q2, q3⟩ := hh 1 _ rfl
  have d01 := d 1 0 (by omega) (by simp) (by simp)
  refine app1_StringSS hgd s x ho hv p1 p2 hx hc h1 q1 q2 d01 hlen (fun v' w' fp' k1 k2 k3 k4 => ?_)
  obtain ⟨sa, sn, sc, rfl⟩ := ow_slice k1
  refine h sa sn sc w' ⟨B.trans (k4.below (fun b hb => (p3 b hb).1) B.size), fun i => match i with | 0 => fp' | i + 1 => fp (i + 2), fun i Q hQ => ?_, fun i j hij hi hj => ?_⟩
  · cases i with
    | zero =>
      obtain rfl : _ = Q := by simpa using hQ
      refine ⟨k1, k2, fun b hm => ⟨?_, Enc.ow_lt _ k1 b hm⟩⟩
      rcases k3 b hm with h1 | h1 | h1
      · exact (p3 b h1).1
      · exact (q3 b h1).1
      · have := B.size; omega
    | succ i =>
      have hQ' : ps[i]? = some Q := by simpa using hQ
      obtain ⟨h1, h2, h3⟩ := hh (i + 2) Q hQ'
      have hil := (List.getElem?_eq_some_iff.1 hQ').1
      refine ⟨Q.frame (fun b hm => k4.block b (h3 b hm).2 (fun hf => ?_)) h1, h2, fun b hm => ⟨(h3 b hm).1, Nat.lt_of_lt_of_le (h3 b hm).2 k4.size⟩⟩
      exact d 0 (i + 2) (by omega) (by simp) (by simpa using hil) b hf hm
  · have hd0 : ∀ i, i < ps.length → Dj fp' (fp (i + 2)) := by
      intro i hi b hb1 hb2
      rcases k3 b hb1 with h1 | h1 | h1
      · exact d 0 (i + 2) (by omega) (by simp) (by simpa using hi) b h1 hb2
      · exact d 1 (i + 2) (by omega) (by simp) (by simpa using hi) b h1 hb2
      · have := ((hh (i + 2) _ (by rw [List.getElem?_cons_succ, List.getElem?_cons_succ]; exact List.getElem?_eq_getElem hi)).2.2 b hb2).2
        omega
    cases i with
    | zero =>
      cases j with
      | zero => exact absurd rfl hij
      | succ j => exact hd0 j (by simpa using hj)
    | succ i =>
      cases j with
      | zero => exact (hd0 i (by simpa using hi)).symm
      | succ j => exact d (i + 2) (j + 2) (by omega) (by simpa using hi) (by simpa using hj)

/-- append of one element, itself a part, to a slice of Move. -/
theorem st1_MoveS {w0 w : World} {ps : List Ob} {ops : Array Oper} {rest : List Oper} {o : Oper} {a : Act} {Q : Exit → Act → World → Prop} {s x : Operand} {v : Value} {l : List (Move)} {b c : Nat} {y : Move} {cs : List Value}
    (S : Star w0 w (oE (sliceE moveE 75) [v] l :: oE moveE cs y :: ps)) (hgd : o.guard = none)
    (ho : o.op = .call { callee := .builtin .append, args := #[s, x], argTypes := #[60, 60] }) (hv : a.eval s = v)
    (hx : a.eval x = .slice (some ⟨b, 0, none⟩) 1 c) (hc : ∀ j u, cs[j]? = some u → w.cell? ⟨b, j, none⟩ = some u) (h1 : ∀ u, u ∈ cs → u.oneCell' = true) (hlen : l.length ≤ 1000000000000)
    (h : ∀ sa sn sc w', Star w0 w' (oE (sliceE moveE 75) [.slice sa sn sc] (l ++ [y]) :: ps) → wpList Tryz.prog ops Q rest (a.put o.dst (.slice sa sn sc)) w') : wpList Tryz.prog ops Q (o :: rest) a w := by
  obtain ⟨B, fp, hh, d⟩ := S
  obtain ⟨p1, p2, p3⟩ := hh 0 _ rfl
  obtain ⟨q1, q2, q3⟩ := hh 1 _ rfl
  have d01 := d 1 0 (by omega) (by simp) (by simp)
  refine app1_MoveS hgd s x ho hv p1 p2 hx hc h1 q1 q2 d01 hlen (fun v' w' fp' k1 k2 k3 k4 => ?_)
  obtain ⟨sa, sn, sc, rfl⟩ := ow_slice k1
  refine h sa sn sc w' ⟨B.trans (k4.below (fun b hb => (p3 b hb).1) B.size), fun i => match i with | 0 => fp' | i + 1 => fp (i + 2), fun i Q hQ => ?_, fun i j hij hi hj => ?_⟩
  · cases i with
    | zero =>
      obtain rfl : _ = Q := by simpa using hQ
      refine ⟨k1, k2, fun b hm => ⟨?_, Enc.ow_lt _ k1 b hm⟩⟩
      rcases k3 b hm with h1 | h1 | h1
      · exact (p3 b h1).1
      · exact (q3 b h1).1
      · have := B.size; omega
    | succ i =>
      have hQ' : ps[i]? = some Q := by simpa using hQ
      obtain ⟨h1, h2, h3⟩ := hh (i + 2) Q hQ'
      have hil := (List.getElem?_eq_some_iff.1 hQ').1
      refine ⟨Q.frame (fun b hm => k4.block b (h3 b hm).2 (fun hf => ?_)) h1, h2, fun b hm => ⟨(h3 b hm).1, Nat.lt_of_lt_of_le (h3 b hm).2 k4.size⟩⟩
      exact d 0 (i + 2) (by omega) (by simp) (by simpa using hil) b hf hm
  · have hd0 : ∀ i, i < ps.length → Dj fp' (fp (i + 2)) := by
      intro i hi b hb1 hb2
      rcases k3 b hb1 with h1 | h1 | h1
      · exact d 0 (i + 2) (by omega) (by simp) (by simpa using hi) b h1 hb2
      · exact d 1 (i + 2) (by omega) (by simp) (by simpa using hi) b h1 hb2
      · have := ((hh (i + 2) _ (by rw [List.getElem?_cons_succ, List.getElem?_cons_succ]; exact List.getElem?_eq_getElem hi)).2.2 b hb2).2
        omega
    cases i with
    | zero =>
      cases j with
      | zero => exact absurd rfl hij
      | succ j => exact hd0 j (by simpa using hj)
    | succ i =>
      cases j with
      | zero => exact (hd0 i (by simpa using hi)).symm
      | succ j => exact d (i + 2) (j + 2) (by omega) (by simpa using hi) (by simpa using hj)

/-- append of several elements that lead nowhere. -/
theorem stS_MoveS {w0 w : World} {ps : List Ob} {ops : Array Oper} {rest : List Oper} {o : Oper} {a : Act} {Q : Exit → Act → World → Prop} {s x : Operand} {v : Value} {l : List (Move)} {ys : List (Move)} {css : List (List Value)} {fys : List (List Nat)}
    (S : Star w0 w (oE (sliceE moveE 75) [v] l :: ps)) (hgd : o.guard = none)
    (ho : o.op = .call { callee := .builtin .append, args := #[s, x], argTypes := #[60, 60] }) (hv : a.eval s = v)
    (hys : OwAll (moveE) w ys css fys) (hfy : fys.flatten = []) (hs : SrcS w (moveE).size (a.eval x) ys.length css.flatten) (hlen : l.length + ys.length ≤ 1000000000000)
    (h : ∀ sa sn sc w', Star w0 w' (oE (sliceE moveE 75) [.slice sa sn sc] (l ++ ys) :: ps) → wpList Tryz.prog ops Q rest (a.put o.dst (.slice sa sn sc)) w') : wpList Tryz.prog ops Q (o :: rest) a w := by
  obtain ⟨B, fp, hh, d⟩ := S
  obtain ⟨p1, p2, p3⟩ := hh 0 _ rfl
  refine appS_MoveS hgd s x ho hv p1 hys hs (by rw [hfy, List.append_nil]; exact p2) hlen (fun v' w' fp' k1 k2 k3 k4 => ?_)
  rw [hfy] at k3
  obtain ⟨sa, sn, sc, rfl⟩ := ow_slice k1
  refine h sa sn sc w' ⟨B.trans (k4.below (fun b hb => (p3 b hb).1) B.size), fun i => match i with | 0 => fp' | i + 1 => fp (i + 1), fun i Q hQ => ?_, fun i j hij hi hj => ?_⟩
  · cases i with
    | zero =>
      obtain rfl : _ = Q := by simpa using hQ
      refine ⟨k1, k2, fun b hm => ⟨?_, Enc.ow_lt _ k1 b hm⟩⟩
      rcases k3 b hm with h1 | h1 | h1
      · exact (p3 b h1).1
      · cases h1
      · have := B.size; omega
    | succ i =>
      have hQ' : ps[i]? = some Q := by simpa using hQ
      obtain ⟨h1, h2, h3⟩ := hh (i + 1) Q hQ'
      have hil := (List.getElem?_eq_some_iff.1 hQ').1
      refine ⟨Q.frame (fun b hm => k4.block b (h3 b hm).2 (fun hf => ?_)) h1, h2, fun b hm => ⟨(h3 b hm).1, Nat.lt_of_lt_of_le (h3 b hm).2 k4.size⟩⟩
      exact d 0 (i + 1) (by omega) (by simp) (by simpa using hil) b hf hm
  · have hd0 : ∀ i, i < ps.length → Dj fp' (fp (i + 1)) := by
      intro i hi b hb1 hb2
      rcases k3 b hb1 with h1 | h1 | h1
      · exact d 0 (i + 1) (by omega) (by simp) (by simpa using hi) b h1 hb2
      · cases h1
      · have := ((hh (i + 1) _ (by rw [List.getElem?_cons_succ]; exact List.getElem?_eq_getElem hi)).2.2 b hb2).2
        omega
    cases i with
    | zero =>
      cases j with
      | zero => exact absurd rfl hij
      | succ j => exact hd0 j (by simpa using hj)
    | succ i =>
      cases j with
      | zero => exact (hd0 i (by simpa using hi)).symm
      | succ j => exact d (i + 1) (j + 1) (by omega) (by simpa using hi) (by simpa using hj)

/-- append of one element, itself a part, to a slice of List Move. -/
theorem st1_MoveSS {w0 w : World} {ps : List Ob} {ops : Array Oper} {rest : List Oper} {o : Oper} {a : Act} {Q : Exit → Act → World → Prop} {s x : Operand} {v : Value} {l : List (List Move)} {b c : Nat} {y : List Move} {cs : List Value}
    (S : Star w0 w (oE (sliceE movesE 60) [v] l :: oE movesE cs y :: ps)) (hgd : o.guard = none)
    (ho : o.op = .call { callee := .builtin .append, args := #[s, x], argTypes := #[24, 24] }) (hv : a.eval s = v)
    (hx : a.eval x = .slice (some ⟨b, 0, none⟩) 1 c) (hc : ∀ j u, cs[j]? = some u → w.cell? ⟨b, j, none⟩ = some u) (h1 : ∀ u, u ∈ cs → u.oneCell' = true) (hlen : l.length ≤ 1000000000000)
    (h : ∀ sa sn sc w', Star w0 w' (oE (sliceE movesE 60) [.slice sa sn sc] (l ++ [y]) :: ps) → wpList Tryz.prog ops Q rest (a.put o.dst (.slice sa sn sc)) w') : wpList Tryz.prog ops Q (o :: rest) a w := by
  obtain ⟨B, fp, hh, d⟩ := S
  obtain ⟨p1, p2, p3⟩ := hh 0 _ rfl
  obtain ⟨q1, q2, q3⟩ := hh 1 _ rfl
  have d01 := d 1 0 (by omega) (by simp) (by simp)
  refine app1_MoveSS hgd s x ho hv p1 p2 hx hc h1 q1 q2 d01 hlen (fun v' w' fp' k1 k2 k3 k4 => ?_)
  obtain ⟨sa, sn, sc, rfl⟩ := ow_slice k1
  refine h sa sn sc w' ⟨B.trans (k4.below (fun b hb => (p3 b hb).1) B.size), fun i => match i with | 0 => fp' | i + 1 => fp (i + 2), fun i Q hQ => ?_, fun i j hij hi hj => ?_⟩
  · cases i with
    | zero =>
      obtain rfl : _ = Q := by simpa using hQ
      refine ⟨k1, k2, fun b hm => ⟨?_, Enc.ow_lt _ k1 b hm⟩⟩
      rcases k3 b hm with h1 | h1 | h1
      · exact (p3 b h1).1
      · exact (q3 b h1).1
      · have := B.size; omega
    | succ i =>
      have hQ' : ps[i]? = some Q := by simpa using hQ
      obtain ⟨h1, h2, h3⟩ := hh (i + 2) Q hQ'
      have hil := (List.getElem?_eq_some_iff.1 hQ').1
      refine ⟨Q.frame (fun b hm => k4.block b (h3 b hm).2 (fun hf => ?_)) h1, h2, fun b hm => ⟨(h3 b hm).1, Nat.lt_of_lt_of_le (h3 b hm).2 k4.size⟩⟩
      exact d 0 (i + 2) (by omega) (by simp) (by simpa using hil) b hf hm
  · have hd0 : ∀ i, i < ps.length → Dj fp' (fp (i + 2)) := by
      intro i hi b hb1 hb2
      rcases k3 b hb1 with h1 | h1 | h1
      · exact d 0 (i + 2) (by omega) (by simp) (by simpa using hi) b h1 hb2
      · exact d 1 (i + 2) (by omega) (by simp) (by simpa using hi) b h1 hb2
      · have := ((hh (i + 2) _ (by rw [List.getElem?_cons_succ, List.getElem?_cons_succ]; exact List.getElem?_eq_getElem hi)).2.2 b hb2).2
        omega
    cases i with
    | zero =>
      cases j with
      | zero => exact absurd rfl hij
      | succ j => exact hd0 j (by simpa using hj)
    | succ i =>
      cases j with
      | zero => exact (hd0 i (by simpa using hi)).symm
      | succ j => exact d (i + 2) (j + 2) (by omega) (by simpa using hi) (by simpa using hj)

end Go.Proofs.YtfamhnogpcmbmaaGreatDoor

/-
  Bytes: how they are read, opened and appended (written in part by a program of this claim's own, gen_bytes.py).
-/
namespace Go.Proofs.YtfamhnogpcmbmaaGreatDoor
open Go.RowKit Go.ChangeShapes Go.WideShapes

def byteE : Enc Int where
  size := 1
  rd _ _ cs a := cs = [.int .u8 a] ∧ 0 ≤ a ∧ a ≤ 255
  ow _ cs a fp := (cs = [.int .u8 a] ∧ 0 ≤ a ∧ a ≤ 255) ∧ fp = []
  rd_len h := by rw [h.1]; rfl
  rd_below _ h := h
  rd_mono _ h := h
  ow_rd _ h := h.1
  ow_lt h b hb := by rw [h.2] at hb; cases hb
  ow_frame _ h := h

abbrev bytesE := sliceE byteE 5

theorem opens_byte {P : Program} {t : TypeId} (h : P.underlying t = some (.int .u8)) : Opens P byteE t := by
  intro H enc w fuel cs x hx
  obtain ⟨n, rfl, rfl, hw⟩ := DataW.trod_int h hx
  refine ⟨n, rfl, ?_⟩
  simpa [Lit.wf, IntKind.min, IntKind.max, IntKind.bits, IntKind.signed] using hw

theorem opens_bytes : Opens Tryz.prog bytesE 22 :=
  fun H enc w fuel cs x hx => opens_slice Tryz.underlying22 (opens_byte Tryz.underlying5) (by kernel_rfl) (by decide) H enc w fuel cs x hx

theorem rd_bytes {w : World} {B : Nat} {v : Value} {l : List Int} (h : bytesE.rd w B [v] l) :
    ∃ a cap, v = .slice a l.length cap ∧ l.length ≤ cap ∧ cap ≤ maxLen ∧ (a = none → cap = 0) ∧ ∀ k, k < l.length → ∃ b o, a = some ⟨b, o, none⟩ ∧ b < B ∧ w.cell? ⟨b, o + k, none⟩ = some (.int .u8 (l[k]?.getD 0)) ∧ 0 ≤ l[k]?.getD 0 ∧ l[k]?.getD 0 ≤ 255 := by
  obtain ⟨a, cap, hv, h1, h2, h3, h4⟩ := h
  refine ⟨a, cap, by simpa using hv, h1, h2, h3, fun k hk => ?_⟩
  obtain ⟨b, o, xs, e1, e2, e3, e4⟩ := h4 k _ (get_some 0 hk)
  obtain ⟨rfl, e5, e6⟩ := e3
  refine ⟨b, o, e1, e2, ?_, e5, e6⟩
  have := e4 0 _ rfl
  simpa [byteE] using this

/-- The bytes of a slice as what append reads. -/
theorem src_bytes {w : World} {B : Nat} {v : Value} {l : List Int} (h : bytesE.rd w B [v] l) : ∃ css fys, OwAll byteE w l css fys ∧ fys.flatten = [] ∧ SrcS w byteE.size v l.length css.flatten :=
  src_of_rd (fun x => [Value.int .u8 x]) (fun _ _ h => ⟨h.1, h, rfl⟩) (fun x u hu => by
    obtain rfl : u = Value.int .u8 x := List.mem_singleton.1 hu
    rfl) h

theorem Star.byte {w0 w : World} {ps : List Ob} (S : Star w0 w ps) {x : Int} (h : 0 ≤ x ∧ x ≤ 255) : Star w0 w (oE byteE [Value.int .u8 x] x :: ps) := S.flat ⟨⟨rfl, h⟩, rfl⟩

theorem inf_ByteS : (Tryz.prog.info? 5).map (fun i => (i.zero, i.size, i.bytes)) = some (some (.int .u8 0), 1, 1) := by kernel_rfl

theorem appS_ByteS {w : World} {ops : Array Oper} {rest : List Oper} {o : Oper} {a : Act} {Q : Exit → Act → World → Prop} (hgd : o.guard = none) (s x : Operand)
    (ho : o.op = .call { callee := .builtin .append, args := #[s, x], argTypes := #[22, 22] }) {v : Value} {l : List _} {fp : List Nat} (hv : a.eval s = v) (hown : (sliceE byteE 5).ow w [v] l fp)
    {ys : List _} {css : List (List Value)} {fys : List (List Nat)} (hys : OwAll (byteE) w ys css fys) (hs : SrcS w (byteE).size (a.eval x) ys.length css.flatten) (hd : (fp ++ fys.flatten).Nodup) (hlen : l.length + ys.length ≤ 1000000000000)
    (h : ∀ v' w' fp', (sliceE byteE 5).ow w' [v'] (l ++ ys) fp' → fp'.Nodup → (∀ b, b ∈ fp' → b ∈ fp ∨ b ∈ fys.flatten ∨ w.heap.size ≤ b) → But fp w w' → wpList Tryz.prog ops Q rest (a.put o.dst v') w') : wpList Tryz.prog ops Q (o :: rest) a w := by
  obtain ⟨i0, hi, hz0, hz1, hz2⟩ := info_parts inf_ByteS
  exact wpList_append_enc (E := byteE) (ty := 5) hgd s x _ ho i0 _ _ Tryz.underlying22 hi hz0 hz1 hz2 rfl (by decide) hv hown hys hs hd (by simp only [maxLen]; omega) (by omega) h

theorem stS_ByteS {w0 w : World} {ps : List Ob} {ops : Array Oper} {rest : List Oper} {o : Oper} {a : Act} {Q : Exit → Act → World → Prop} {s x : Operand} {v : Value} {l : List (Int)} {ys : List (Int)} {css : List (List Value)} {fys : List (List Nat)}
    (S : Star w0 w (oE (sliceE byteE 5) [v] l :: ps)) (hgd : o.guard = none)
    (ho : o.op = .call { callee := .builtin .append, args := #[s, x], argTypes := #[22, 22] }) (hv : a.eval s = v)
    (hys : OwAll (byteE) w ys css fys) (hfy : fys.flatten = []) (hs : SrcS w (byteE).size (a.eval x) ys.length css.flatten) (hlen : l.length + ys.length ≤ 1000000000000)
    (h : ∀ sa sn sc w', Star w0 w' (oE (sliceE byteE 5) [.slice sa sn sc] (l ++ ys) :: ps) → wpList Tryz.prog ops Q rest (a.put o.dst (.slice sa sn sc)) w') : wpList Tryz.prog ops Q (o :: rest) a w := by
  obtain ⟨B, fp, hh, d⟩ := S
  obtain ⟨p1, p2, p3⟩ := hh 0 _ rfl
  refine appS_ByteS hgd s x ho hv p1 hys hs (by rw [hfy, List.append_nil]; exact p2) hlen (fun v' w' fp' k1 k2 k3 k4 => ?_)
  rw [hfy] at k3
  obtain ⟨sa, sn, sc, rfl⟩ := ow_slice k1
  refine h sa sn sc w' ⟨B.trans (k4.below (fun b hb => (p3 b hb).1) B.size), fun i => match i with | 0 => fp' | i + 1 => fp (i + 1), fun i Q hQ => ?_, fun i j hij hi hj => ?_⟩
  · cases i with
    | zero =>
      obtain rfl : _ = Q := by simpa using hQ
      refine ⟨k1, k2, fun b hm => ⟨?_, Enc.ow_lt _ k1 b hm⟩⟩
      rcases k3 b hm with h1 | h1 | h1
      · exact (p3 b h1).1
      · cases h1
      · have := B.size; omega
    | succ i =>
      have hQ' : ps[i]? = some Q := by simpa using hQ
      obtain ⟨h1, h2, h3⟩ := hh (i + 1) Q hQ'
      have hil := (List.getElem?_eq_some_iff.1 hQ').1
      refine ⟨Q.frame (fun b hm => k4.block b (h3 b hm).2 (fun hf => ?_)) h1, h2, fun b hm => ⟨(h3 b hm).1, Nat.lt_of_lt_of_le (h3 b hm).2 k4.size⟩⟩
      exact d 0 (i + 1) (by omega) (by simp) (by simpa using hil) b hf hm
  · have hd0 : ∀ i, i < ps.length → Dj fp' (fp (i + 1)) := by
      intro i hi b hb1 hb2
      rcases k3 b hb1 with h1 | h1 | h1
      · exact d 0 (i + 1) (by omega) (by simp) (by simpa using hi) b h1 hb2
      · cases h1
      · have := ((hh (i + 1) _ (by rw [List.getElem?_cons_succ]; exact List.getElem?_eq_getElem hi)).2.2 b hb2).2
        omega
    cases i with
    | zero =>
      cases j with
      | zero => exact absurd rfl hij
      | succ j => exact hd0 j (by simpa using hj)
    | succ i =>
      cases j with
      | zero => exact (hd0 i (by simpa using hi)).symm
      | succ j => exact d (i + 1) (j + 1) (by omega) (by simpa using hi) (by simpa using hj)

end Go.Proofs.YtfamhnogpcmbmaaGreatDoor

/-
  The reference's source of choices: a number from 0 to n - 1.
-/
namespace Go.Proofs.YtfamhnogpcmbmaaGreatDoor
open Go.RowKit

abbrev srcTy : TypeId := 78

theorem u64_in (n : Int) : 0 ≤ IntKind.u64.wrap n ∧ IntKind.u64.wrap n < 2 ^ 64 := by rw [IntKind.wrap_u64]; omega

set_option maxHeartbeats 1000000 in
theorem next_any (q k : Nat) (v : Value) (code : List Int) (seed : Int) (w0 w : World) (hk : k ≤ 1000) (hs : 0 ≤ seed ∧ seed < 2 ^ 64) (hr : bytesE.rd w0 w0.heap.size [v] code) (S : Star w0 w [oB q [v, .int .i64 k, .int .u64 seed] srcTy]) :
    Calls Tryz.prog 75 #[.pointer (some ⟨q, 0, none⟩)] w (fun e w' => ∃ x y : Int, e = .returned (.int .i64 x) ∧ (0 ≤ x ∧ x ≤ 255) ∧ (0 ≤ y ∧ y < 2 ^ 64) ∧ Star w0 w' [oB q [v, .int .i64 (k + 1 : Nat), .int .u64 y] srcTy]) := by
  obtain ⟨a, cap, rfl, h1, h2, -, h4⟩ := rd_bytes (bytesE.rd_of S.below hr)
  have b0 := S.blk 0 rfl
  have c0 := b0.cell 0 rfl
  have c1 := b0.cell 1 rfl
  have c2 := b0.cell 2 rfl
  have f1 := b0.free 1
  have f2 := b0.free 2
  have H4 := Lib.hid h4
  obtain ⟨n, hn⟩ : ∃ n, n = code.length := ⟨_, rfl⟩
  rw [← hn] at H4 h1 c0 b0 S ⊢
  clear h4 hr hn
  go_enter Tryz.func75, Tryz.ntmps75
  by_cases hlt : k < n
  · obtain ⟨p, o, rfl, hb, hc, lo, hi⟩ := H4.out k hlt
    generalize code[k]?.getD 0 = x at *
    have w1 : IntKind.i64.wrap x = x := IntWalk.i64_in _ ⟨by omega, by omega⟩
    have w2 : IntKind.u64.wrap x = x := by rw [IntKind.wrap_u64]; omega
    have t1 : (k : Int) < (n : Int) := by omega
    obtain ⟨Y, hY⟩ : ∃ Y, Y = IntKind.u64.wrap (IntKind.u64.wrap (IntKind.u64.wrap (seed * 6364136223846793005) + x) + 1442695040888963407) := ⟨_, rfl⟩
    have hy := u64_in (IntKind.u64.wrap (IntKind.u64.wrap (seed * 6364136223846793005) + x) + 1442695040888963407)
    rw [← hY] at hy
    have HY := Lib.hid hY; clear hY
    go_wp2
    go_quiet (fail)
    go_wp2
    go_quiet (fail)
    go_wp2
    rw [← HY.out]
    generalize hW : World.setCell (World.setCell (w.drewN _) _ _) _ _ = w1
    have S1 : Star w0 w1 [oB q [.slice (some ⟨p, o, none⟩) n cap, .int .i64 (k + 1 : Nat), .int .u64 Y] srcTy] := by rw [← hW]; exact ((S.step (below_drewN (Below.refl _ _) _)).set 1 _).set 2 _
    clear hW c0 c1 c2 f1 f2 S HY hc
    have b0 := S1.blk 0 rfl
    have c0 := b0.cell 0 rfl
    have c1 := b0.cell 1 rfl
    clear b0
    have t2 : ((k + 1 : Nat) : Int) ≤ (n : Int) := by omega
    go_wp2
    go_quiet (fail)
    go_wp2
    go_ret
    exact ⟨x, Y, rfl, ⟨lo, hi⟩, hy, S1.step (below_drewN (Below.refl _ _) _)⟩
  · have t1 : ¬ (k : Int) < (n : Int) := by omega
    obtain ⟨Y, hY⟩ : ∃ Y, Y = IntKind.u64.wrap (IntKind.u64.wrap (IntKind.u64.wrap (seed * 6364136223846793005)) + 1442695040888963407) := ⟨_, rfl⟩
    have hy := u64_in (IntKind.u64.wrap (IntKind.u64.wrap (seed * 6364136223846793005)) + 1442695040888963407)
    rw [← hY] at hy
    have HY := Lib.hid hY; clear hY
    go_wp2
    go_quiet (fail)
    go_wp2
    rw [← HY.out]
    generalize hW : World.setCell (World.setCell (w.drewN _) _ _) _ _ = w1
    have S1 : Star w0 w1 [oB q [.slice a n cap, .int .i64 (k + 1 : Nat), .int .u64 Y] srcTy] := by rw [← hW]; exact ((S.step (below_drewN (Below.refl _ _) _)).set 1 _).set 2 _
    clear hW c0 c1 c2 f1 f2 S HY H4
    have b0 := S1.blk 0 rfl
    have c0 := b0.cell 0 rfl
    have c1 := b0.cell 1 rfl
    have c2 := b0.cell 2 rfl
    clear b0
    have t2 : ¬ ((k + 1 : Nat) : Int) ≤ (n : Int) := by omega
    go_wp2
    go_quiet (fail)
    go_wp2
    go_ret
    have hm : bits .and .u64 (Y / 1099511627776) 255 = (Y / 1099511627776) % 256 := bits_mask .u64 64 (by decide) (fun n a b => by rw [IntKind.wrap_u64]; omega) 8 (by decide) _ (by omega) (by omega)
    refine ⟨(Y / 1099511627776) % 256, Y, ?_, by omega, hy, S1.step (below_drewN (Below.refl _ _) _)⟩
    show Ending.returned (.int .i64 (wrap64 (bits .and .u64 (Y / 1099511627776) 255))) = _
    rw [hm, IntWalk.wrap64_in _ ⟨by omega, by omega⟩]

theorem from_any (v : Value) (code : List Int) (w : World) (hr : bytesE.rd w w.heap.size [v] code) :
    Calls Tryz.prog 17 #[v] w (fun e w' => e = .returned (.pointer (some ⟨w.heap.size, 0, none⟩)) ∧ Star w w' [oB w.heap.size [v, .int .i64 0, .int .u64 0] srcTy]) := by
  obtain ⟨a, cap, rfl, -, -, -, -⟩ := rd_bytes hr
  go_enter Tryz.func17, Tryz.ntmps17
  go_wp2
  go_ret
  exact ⟨rfl, (Star.nil w).alloc⟩

set_option maxHeartbeats 1000000 in
theorem pick_any (q : Nat) (n : Int) (v : Value) (code : List Int) (w0 w : World) (hn : -9223372036854775808 ≤ n ∧ n ≤ 200) (hr : bytesE.rd w0 w0.heap.size [v] code) (S : Star w0 w [oB q [v, .int .i64 0, .int .u64 0] srcTy]) :
    Calls Tryz.prog 42 #[.pointer (some ⟨q, 0, none⟩), .int .i64 n] w (fun e w' => ∃ x : Nat, e = .returned (.int .i64 x) ∧ (x = 0 ∨ (x : Int) < n) ∧ Below w0.heap.size w0 w') := by
  go_enter Tryz.func42, Tryz.ntmps42
  by_cases h1 : n ≤ 1
  · go_wp2
    go_ret
    exact ⟨0, rfl, .inl rfl, S.below⟩
  · go_wp2_with fail
    refine (next_any q 0 v code 0 w0 w (by omega) (by omega) hr S).mono ?_
    rintro e w1 ⟨x, y, rfl, hx, -, S1⟩
    have t2 : ¬ 200 < n := by omega
    obtain ⟨m, rfl⟩ : ∃ m : Nat, n = m := ⟨n.toNat, by omega⟩
    obtain ⟨x, rfl⟩ : ∃ m : Nat, x = m := ⟨x.toNat, by omega⟩
    have hm0 : ¬ m = 0 := by omega
    obtain ⟨z, hz⟩ : ∃ z, z = x % m := ⟨_, rfl⟩
    have hrem : (x : Int).tmod (m : Int) = (z : Int) := by rw [hz]; rfl
    have hzm : z < m := by rw [hz]; exact Nat.mod_lt _ (by omega)
    clear hz
    go_wp2
    go_ret
    exact ⟨z, rfl, .inr (by omega), S1.below⟩

end Go.Proofs.YtfamhnogpcmbmaaGreatDoor

/-
  The reference's source of choices as a part of what a call holds: numbers, elements of lists.
-/
namespace Go.Proofs.YtfamhnogpcmbmaaGreatDoor
open Go.RowKit

set_option maxHeartbeats 1000000 in
theorem nextP_any (ps : List Ob) (q k : Nat) (v : Value) (code : List Int) (seed : Int) (w0 w : World) (hk : k ≤ 1000000) (hs : 0 ≤ seed ∧ seed < 2 ^ 64) (hr : bytesE.rd w0 w0.heap.size [v] code) (S : Star w0 w (oB q [v, .int .i64 k, .int .u64 seed] srcTy :: ps)) :
    Calls Tryz.prog 75 #[.pointer (some ⟨q, 0, none⟩)] w (fun e w' => ∃ x y : Int, e = .returned (.int .i64 x) ∧ (0 ≤ x ∧ x ≤ 255) ∧ (0 ≤ y ∧ y < 2 ^ 64) ∧ Star w0 w' (oB q [v, .int .i64 (k + 1 : Nat), .int .u64 y] srcTy :: ps)) := by
  obtain ⟨a, cap, rfl, h1, h2, -, h4⟩ := rd_bytes (bytesE.rd_of S.below hr)
  have b0 := S.blk 0 rfl
  have c0 := b0.cell 0 rfl
  have c1 := b0.cell 1 rfl
  have c2 := b0.cell 2 rfl
  have f1 := b0.free 1
  have f2 := b0.free 2
  have H4 := Lib.hid h4
  obtain ⟨n, hn⟩ : ∃ n, n = code.length := ⟨_, rfl⟩
  rw [← hn] at H4 h1 c0 b0 S ⊢
  clear h4 hr hn
  go_enter Tryz.func75, Tryz.ntmps75
  by_cases hlt : k < n
  · obtain ⟨p, o, rfl, hb, hc, lo, hi⟩ := H4.out k hlt
    generalize code[k]?.getD 0 = x at *
    have w1 : IntKind.i64.wrap x = x := IntWalk.i64_in _ ⟨by omega, by omega⟩
    have w2 : IntKind.u64.wrap x = x := by rw [IntKind.wrap_u64]; omega
    have t1 : (k : Int) < (n : Int) := by omega
    obtain ⟨Y, hY⟩ : ∃ Y, Y = IntKind.u64.wrap (IntKind.u64.wrap (IntKind.u64.wrap (seed * 6364136223846793005) + x) + 1442695040888963407) := ⟨_, rfl⟩
    have hy := u64_in (IntKind.u64.wrap (IntKind.u64.wrap (seed * 6364136223846793005) + x) + 1442695040888963407)
    rw [← hY] at hy
    have HY := Lib.hid hY; clear hY
    go_wp2
    go_quiet (fail)
    go_wp2
    go_quiet (fail)
    go_wp2
    rw [← HY.out]
    generalize hW : World.setCell (World.setCell (w.drewN _) _ _) _ _ = w1
    have S1 : Star w0 w1 (oB q [.slice (some ⟨p, o, none⟩) n cap, .int .i64 (k + 1 : Nat), .int .u64 Y] srcTy :: ps) := by rw [← hW]; exact ((S.step (below_drewN (Below.refl _ _) _)).set 1 _).set 2 _
    clear hW c0 c1 c2 f1 f2 S HY hc
    have b0 := S1.blk 0 rfl
    have c0 := b0.cell 0 rfl
    have c1 := b0.cell 1 rfl
    clear b0
    have t2 : ((k + 1 : Nat) : Int) ≤ (n : Int) := by omega
    go_wp2
    go_quiet (fail)
    go_wp2
    go_ret
    exact ⟨x, Y, rfl, ⟨lo, hi⟩, hy, S1.step (below_drewN (Below.refl _ _) _)⟩
  · have t1 : ¬ (k : Int) < (n : Int) := by omega
    obtain ⟨Y, hY⟩ : ∃ Y, Y = IntKind.u64.wrap (IntKind.u64.wrap (IntKind.u64.wrap (seed * 6364136223846793005)) + 1442695040888963407) := ⟨_, rfl⟩
    have hy := u64_in (IntKind.u64.wrap (IntKind.u64.wrap (seed * 6364136223846793005)) + 1442695040888963407)
    rw [← hY] at hy
    have HY := Lib.hid hY; clear hY
    go_wp2
    go_quiet (fail)
    go_wp2
    rw [← HY.out]
    generalize hW : World.setCell (World.setCell (w.drewN _) _ _) _ _ = w1
    have S1 : Star w0 w1 (oB q [.slice a n cap, .int .i64 (k + 1 : Nat), .int .u64 Y] srcTy :: ps) := by rw [← hW]; exact ((S.step (below_drewN (Below.refl _ _) _)).set 1 _).set 2 _
    clear hW c0 c1 c2 f1 f2 S HY H4
    have b0 := S1.blk 0 rfl
    have c0 := b0.cell 0 rfl
    have c1 := b0.cell 1 rfl
    have c2 := b0.cell 2 rfl
    clear b0
    have t2 : ¬ ((k + 1 : Nat) : Int) ≤ (n : Int) := by omega
    go_wp2
    go_quiet (fail)
    go_wp2
    go_ret
    have hm : bits .and .u64 (Y / 1099511627776) 255 = (Y / 1099511627776) % 256 := bits_mask .u64 64 (by decide) (fun n a b => by rw [IntKind.wrap_u64]; omega) 8 (by decide) _ (by omega) (by omega)
    refine ⟨(Y / 1099511627776) % 256, Y, ?_, by omega, hy, S1.step (below_drewN (Below.refl _ _) _)⟩
    show Ending.returned (.int .i64 (wrap64 (bits .and .u64 (Y / 1099511627776) 255))) = _
    rw [hm, IntWalk.wrap64_in _ ⟨by omega, by omega⟩]

theorem Star.reidx {w0 w : World} {ps qs : List Ob} (S : Star w0 w ps) (σ : Nat → Nat) (h : ∀ i Q, qs[i]? = some Q → ps[σ i]? = some Q) (inj : ∀ i j, i < qs.length → j < qs.length → i ≠ j → σ i ≠ σ j) : Star w0 w qs := by
  obtain ⟨B, fp, hh, d⟩ := S
  have hl : ∀ i, i < qs.length → σ i < ps.length := fun i hi => (List.getElem?_eq_some_iff.1 (h i _ (List.getElem?_eq_getElem hi))).1
  exact ⟨B, fun i => fp (σ i), fun i Q hQ => hh _ Q (h i Q hQ), fun i j hij hi hj => d _ _ (inj i j hi hj hij) (hl i hi) (hl j hj)⟩

/-- A source of choices that has been asked K times at most. -/
def oSrc (q : Nat) (v : Value) (K : Nat) : Ob := ⟨fun w fp => (∃ (k : Nat) (seed : Int), k ≤ K ∧ 0 ≤ seed ∧ seed < 2 ^ 64 ∧ Blk w q [v, .int .i64 (k : Nat), .int .u64 seed] srcTy) ∧ fp = [q], fun hf h => by
  obtain ⟨⟨k, seed, h1, h2, h3, h4⟩, h5⟩ := h
  exact ⟨⟨k, seed, h1, h2, h3, h4.same (hf q (by rw [h5]; simp))⟩, h5⟩⟩

theorem Star.srcOf {w0 w : World} {ps : List Ob} {q : Nat} {v : Value} {K : Nat} (S : Star w0 w (oSrc q v K :: ps)) : ∃ (k : Nat) (seed : Int), k ≤ K ∧ 0 ≤ seed ∧ seed < 2 ^ 64 ∧ Star w0 w (oB q [v, .int .i64 (k : Nat), .int .u64 seed] srcTy :: ps) := by
  have S2 := S
  obtain ⟨_, fp, hh, _⟩ := S2
  obtain ⟨⟨⟨k, seed, h1, h2, h3, h4⟩, h5⟩, -, -⟩ := hh 0 _ rfl
  exact ⟨k, seed, h1, h2, h3, S.upd fun f hf nd hl => ⟨f, ⟨h4, hf.2⟩, nd, fun b hb => .inl hb, hl, But.refl _ _⟩⟩

theorem Star.toSrc {w0 w : World} {ps : List Ob} {q : Nat} {v : Value} {k K : Nat} {seed : Int} (S : Star w0 w (oB q [v, .int .i64 (k : Nat), .int .u64 seed] srcTy :: ps)) (hk : k ≤ K) (h0 : 0 ≤ seed) (h1 : seed < 2 ^ 64) : Star w0 w (oSrc q v K :: ps) :=
  S.upd fun f hf nd hl => ⟨f, ⟨⟨k, seed, hk, h0, h1, hf.1⟩, hf.2⟩, nd, fun b hb => .inl hb, hl, But.refl _ _⟩

theorem Star.moreSrc {w0 w : World} {ps : List Ob} {q : Nat} {v : Value} {K L : Nat} (S : Star w0 w (oSrc q v K :: ps)) (h : K ≤ L) : Star w0 w (oSrc q v L :: ps) := by
  obtain ⟨k, seed, h1, h2, h3, S⟩ := S.srcOf
  exact S.toSrc (Nat.le_trans h1 h) h2 h3

/-- What is asked of a source lies below. -/
def SrcIs (w0 : World) (v : Value) : Prop := ∃ code, bytesE.rd w0 w0.heap.size [v] code

set_option maxHeartbeats 1000000 in
theorem pickP_any (ps : List Ob) (q K : Nat) (n : Int) (v : Value) (w0 w : World) (hn : -9223372036854775808 ≤ n ∧ n ≤ 200) (hK : K ≤ 1000000) (hr : SrcIs w0 v) (S : Star w0 w (oSrc q v K :: ps)) :
    Calls Tryz.prog 42 #[.pointer (some ⟨q, 0, none⟩), .int .i64 n] w (fun e w' => ∃ x : Nat, e = .returned (.int .i64 x) ∧ (x = 0 ∨ (x : Int) < n) ∧ Star w0 w' (oSrc q v (K + 1) :: ps)) := by
  obtain ⟨code, hr⟩ := hr
  go_enter Tryz.func42, Tryz.ntmps42
  by_cases h1 : n ≤ 1
  · go_wp2
    go_ret
    exact ⟨0, rfl, .inl rfl, S.moreSrc (Nat.le_add_right _ _)⟩
  · obtain ⟨k, seed, k1, k2, k3, S⟩ := S.srcOf
    go_wp2_with fail
    refine (nextP_any ps q k v code seed w0 w (by omega) ⟨k2, k3⟩ hr S).mono ?_
    rintro e w1 ⟨x, y, rfl, hx, hy, S1⟩
    have t2 : ¬ 200 < n := by omega
    obtain ⟨m, rfl⟩ : ∃ m : Nat, n = m := ⟨n.toNat, by omega⟩
    obtain ⟨x, rfl⟩ : ∃ m : Nat, x = m := ⟨x.toNat, by omega⟩
    have hm0 : ¬ m = 0 := by omega
    obtain ⟨z, hz⟩ : ∃ z, z = x % m := ⟨_, rfl⟩
    have hrem : (x : Int).tmod (m : Int) = (z : Int) := by rw [hz]; rfl
    have hzm : z < m := by rw [hz]; exact Nat.mod_lt _ (by omega)
    clear hz
    go_wp2
    go_ret
    exact ⟨z, rfl, .inr (by omega), S1.toSrc (by omega) hy.1 hy.2⟩

set_option maxHeartbeats 1000000 in
theorem oneP_any (ps : List Ob) (q K : Nat) (n : Int) (v : Value) (w0 w : World) (hn : -9223372036854775808 ≤ n ∧ n ≤ 200) (hK : K ≤ 1000000) (hr : SrcIs w0 v) (S : Star w0 w (oSrc q v K :: ps)) :
    Calls Tryz.prog 40 #[.pointer (some ⟨q, 0, none⟩), .int .i64 n] w (fun e w' => ∃ b : Bool, e = .returned (.bool b) ∧ Star w0 w' (oSrc q v (K + 1) :: ps)) := by
  go_enter Tryz.func40, Tryz.ntmps40
  go_wp2_with fail
  refine (pickP_any ps q K n v w0 w hn hK hr S).mono ?_
  rintro e w1 ⟨x, rfl, hx, S⟩
  go_wp2
  go_ret
  exact ⟨_, rfl, S⟩

set_option maxHeartbeats 1000000 in
theorem amongP_any (ps : List Ob) (q K g n : Nat) (l : List Int) (v : Value) (w0 w : World) (hl : l.length = n) (hn : 1 ≤ n ∧ n ≤ 200) (hK : K ≤ 1000000) (hr : SrcIs w0 v) (S : Star w0 w (oSrc q v K :: oB g (l.map (Value.int .i64)) 2 :: ps)) :
    Calls Tryz.prog 71 #[.pointer (some ⟨q, 0, none⟩), .slice (some ⟨g, 0, none⟩) n n] w (fun e w' => ∃ x : Int, e = .returned (.int .i64 x) ∧ x ∈ l ∧ Star w0 w' (oSrc q v (K + 1) :: ps)) := by
  go_enter Tryz.func71, Tryz.ntmps71
  go_wp2_with fail
  refine (pickP_any _ q K n v w0 w ⟨by omega, by omega⟩ hK hr S).mono ?_
  rintro e w1 ⟨x, rfl, hx, S⟩
  have hxn : x < l.length := by omega
  have hc := (S.blk 1 rfl).cell x (v := .int .i64 l[x]) (by rw [List.getElem?_map, List.getElem?_eq_getElem hxn]; rfl)
  have hm := List.getElem_mem hxn
  generalize l[x] = y at hc hm
  have i1 : (0 : Int) ≤ (x : Int) := by omega
  have i2 : (x : Int) < (n : Int) := by omega
  clear hxn hx hl
  go_wp2
  go_ret
  exact ⟨y, rfl, hm, S.reidx (fun i => if i = 0 then 0 else i + 1) (fun i Q hQ => by cases i with | zero => exact hQ | succ i => exact hQ) (fun i j _ _ h => by
    cases i <;> cases j <;> simp at h ⊢ <;> omega)⟩

set_option maxHeartbeats 1000000 in
theorem textP_any (ps : List Ob) (q K g n : Nat) (l : List ByteArray) (v : Value) (w0 w : World) (hl : l.length = n) (hn : 1 ≤ n ∧ n ≤ 200) (hK : K ≤ 1000000) (hr : SrcIs w0 v) (S : Star w0 w (oSrc q v K :: oB g (l.map Value.string) 9 :: ps)) :
    Calls Tryz.prog 44 #[.pointer (some ⟨q, 0, none⟩), .slice (some ⟨g, 0, none⟩) n n] w (fun e w' => ∃ x : ByteArray, e = .returned (.string x) ∧ x ∈ l ∧ Star w0 w' (oSrc q v (K + 1) :: ps)) := by
  go_enter Tryz.func44, Tryz.ntmps44
  go_wp2_with fail
  refine (pickP_any _ q K n v w0 w ⟨by omega, by omega⟩ hK hr S).mono ?_
  rintro e w1 ⟨x, rfl, hx, S⟩
  have hxn : x < l.length := by omega
  have hc := (S.blk 1 rfl).cell x (v := .string l[x]) (by rw [List.getElem?_map, List.getElem?_eq_getElem hxn]; rfl)
  have hm := List.getElem_mem hxn
  generalize l[x] = y at hc hm
  have i1 : (0 : Int) ≤ (x : Int) := by omega
  have i2 : (x : Int) < (n : Int) := by omega
  clear hxn hx hl
  go_wp2
  go_ret
  exact ⟨y, rfl, hm, S.reidx (fun i => if i = 0 then 0 else i + 1) (fun i Q hQ => by cases i with | zero => exact hQ | succ i => exact hQ) (fun i j _ _ h => by
    cases i <;> cases j <;> simp at h ⊢ <;> omega)⟩

theorem fromP_any (v : Value) (w0 w : World) (ps : List Ob) (hr : SrcIs w0 v) (S : Star w0 w ps) :
    Calls Tryz.prog 17 #[v] w (fun e w' => ∃ q, e = .returned (.pointer (some ⟨q, 0, none⟩)) ∧ Star w0 w' (oSrc q v 0 :: ps)) := by
  obtain ⟨code, hr⟩ := hr
  obtain ⟨a, cap, rfl, -, -, -, -⟩ := rd_bytes hr
  go_enter Tryz.func17, Tryz.ntmps17
  go_wp2
  go_ret
  exact ⟨_, rfl, Star.toSrc (k := 0) (S.alloc (cs := #[.slice a code.length cap, .int .i64 0, .int .u64 0]) (ty := srcTy)) (Nat.le_refl _) (by decide) (by decide)⟩

end Go.Proofs.YtfamhnogpcmbmaaGreatDoor

/-
  Contracts of the library, laid at this program (by a program of this claim's own, layn.py, after the kit's own laying).
-/
namespace Go.Proofs
open Go.Shelf
def Tryz.lays160_ren : Go.Shelf.Ren := ⟨fun | 119 => 134 | 120 => 123 | 137 => 133 | 151 => 110 | 152 => 122 | 160 => 60 | 197 => 107 | 217 => 100 | 224 => 102 | 225 => 101 | 227 => 87 | 228 => 109 | 231 => 85 | 232 => 86 | 233 => 88 | 234 => 89 | 235 => 90 | 236 => 91 | 260 => 121 | 266 => 114 | 271 => 111 | n => n, fun | 0 => 0 | 3 => 3 | 4 => 4 | 5 => 5 | 9 => 9 | 21 => 21 | 46 => 130 | 105 => 136 | 116 => 119 | 117 => 120 | 119 => 161 | 124 => 123 | 138 => 163 | 139 => 164 | n => n, fun | 3 => 3 | 4 => 4 | n => n⟩
theorem Tryz.lays160 : Go.Proofs.Lays.n160 Tryz.prog Tryz.lays160_ren := {
  mixed := by kernel_rfl
  f119 := Tryz.func134.trans (congrArg some (by kernel_rfl))
  f120 := Tryz.func123.trans (congrArg some (by kernel_rfl))
  f137 := Tryz.func133.trans (congrArg some (by kernel_rfl))
  f151 := Tryz.func110.trans (congrArg some (by kernel_rfl))
  f152 := Tryz.func122.trans (congrArg some (by kernel_rfl))
  f160 := Tryz.func60.trans (congrArg some (by kernel_rfl))
  f197 := Tryz.func107.trans (congrArg some (by kernel_rfl))
  f217 := Tryz.func100.trans (congrArg some (by kernel_rfl))
  f224 := Tryz.func102.trans (congrArg some (by kernel_rfl))
  f225 := Tryz.func101.trans (congrArg some (by kernel_rfl))
  f227 := Tryz.func87.trans (congrArg some (by kernel_rfl))
  f228 := Tryz.func109.trans (congrArg some (by kernel_rfl))
  f231 := Tryz.func85.trans (congrArg some (by kernel_rfl))
  f232 := Tryz.func86.trans (congrArg some (by kernel_rfl))
  f233 := Tryz.func88.trans (congrArg some (by kernel_rfl))
  f234 := Tryz.func89.trans (congrArg some (by kernel_rfl))
  f235 := Tryz.func90.trans (congrArg some (by kernel_rfl))
  f236 := Tryz.func91.trans (congrArg some (by kernel_rfl))
  f260 := Tryz.func121.trans (congrArg some (by kernel_rfl))
  f266 := Tryz.func114.trans (congrArg some (by kernel_rfl))
  f271 := Tryz.func111.trans (congrArg some (by kernel_rfl))
  t0 := Tryz.underlying0
  a0 := Tryz.isAgg0
  z0 := Tryz.sizeOf0
  v0 := Tryz.zeroValue0
  t3 := Tryz.underlying3
  a3 := Tryz.isAgg3
  z3 := Tryz.sizeOf3
  v3 := Tryz.zeroValue3
  t4 := Tryz.underlying4
  a4 := Tryz.isAgg4
  z4 := Tryz.sizeOf4
  v4 := Tryz.zeroValue4
  t5 := Tryz.underlying5
  a5 := Tryz.isAgg5
  z5 := Tryz.sizeOf5
  v5 := Tryz.zeroValue5
  t9 := Tryz.underlying9
  a9 := Tryz.isAgg9
  z9 := Tryz.sizeOf9
  v9 := Tryz.zeroValue9
  t21 := Tryz.underlying21
  a21 := Tryz.isAgg21
  z21 := Tryz.sizeOf21
  v21 := Tryz.zeroValue21
  t46 := Tryz.underlying130
  a46 := Tryz.isAgg130
  z46 := Tryz.sizeOf130
  v46 := Tryz.zeroValue130
  t105 := Tryz.underlying136
  a105 := Tryz.isAgg136
  z105 := Tryz.sizeOf136
  v105 := Tryz.zeroValue136
  t116 := Tryz.underlying119
  a116 := Tryz.isAgg119
  z116 := Tryz.sizeOf119
  t117 := Tryz.underlying120
  a117 := Tryz.isAgg120
  z117 := Tryz.sizeOf120
  v117 := Tryz.zeroValue120
  t119 := Tryz.underlying161
  a119 := Tryz.isAgg161
  z119 := Tryz.sizeOf161
  t124 := Tryz.underlying123
  a124 := Tryz.isAgg123
  z124 := Tryz.sizeOf123
  v124 := Tryz.zeroValue123
  t138 := Tryz.underlying163
  a138 := Tryz.isAgg163
  z138 := Tryz.sizeOf163
  v138 := Tryz.zeroValue163
  t139 := Tryz.underlying164
  a139 := Tryz.isAgg164
  z139 := Tryz.sizeOf164
  v139 := Tryz.zeroValue164
  g3 := by kernel_rfl
  g4 := by kernel_rfl }
end Go.Proofs

/-
  Contracts of the library's ContainsFunc and IndexFunc at the program's types, for whatever function value that answers a Bool of the element; and of the smallest functions of the program.
-/
namespace Go.Proofs.YtfamhnogpcmbmaaGreatDoor
open Go.RowKit

/-- A number lies in a range. -/
def within (n lo hi : Int) : Bool := decide (lo ≤ n) && decide (n ≤ hi)

theorem within_true {n lo hi : Int} : within n lo hi = true ↔ lo ≤ n ∧ n ≤ hi := by simp [within]
theorem within_eq {n lo hi : Int} (h : lo ≤ n ∧ n ≤ hi) : within n lo hi = true := within_true.2 h
theorem within_ne {n lo hi : Int} (h : ¬ (lo ≤ n ∧ n ≤ hi)) : within n lo hi = false := by
  rw [Bool.eq_false_iff]; exact fun e => h (within_true.1 e)

theorem within_k (n lo hi : Int) (w : World) : Calls Tryz.prog 56 #[.int .i64 n, .int .i64 lo, .int .i64 hi] w (Keeps (.bool (within n lo hi)) w) := by
  by_cases h1 : lo ≤ n
  · have hr : within n lo hi = decide (n ≤ hi) := by simp [within, h1]
    have Hr := Lib.hid hr; clear hr
    go_enter Tryz.func56, Tryz.ntmps56
    go_wp2
    go_ret
    exact ⟨by rw [Hr.out]; rfl, rfl⟩
  · have hr : within n lo hi = false := within_ne (fun h => h1 h.1)
    have Hr := Lib.hid hr; clear hr
    go_enter Tryz.func56, Tryz.ntmps56
    go_wp2
    go_ret
    exact ⟨by rw [Hr.out]; rfl, rfl⟩

theorem l00In_k (n lo hi : Int) (w : World) : Calls Tryz.prog 72 #[.int .i64 n, .int .i64 lo, .int .i64 hi] w (Keeps (.bool (within n lo hi)) w) := by
  by_cases h1 : lo ≤ n
  · have hr : within n lo hi = decide (n ≤ hi) := by simp [within, h1]
    have Hr := Lib.hid hr; clear hr
    go_enter Tryz.func72, Tryz.ntmps72
    go_wp2
    go_ret
    exact ⟨by rw [Hr.out]; rfl, rfl⟩
  · have hr : within n lo hi = false := within_ne (fun h => h1 h.1)
    have Hr := Lib.hid hr; clear hr
    go_enter Tryz.func72, Tryz.ntmps72
    go_wp2
    go_ret
    exact ⟨by rw [Hr.out]; rfl, rfl⟩

theorem within_any (n lo hi : Int) (w : World) : Calls Tryz.prog 56 #[.int .i64 n, .int .i64 lo, .int .i64 hi] w (Gives (.bool (within n lo hi)) w) :=
  (within_k n lo hi w).mono fun _ _ ⟨h1, h2⟩ => ⟨h1, h2 ▸ Below.refl _ _⟩

theorem within_kis (r : Bool) (n lo hi : Int) (w : World) (h : within n lo hi = r) : Calls Tryz.prog 56 #[.int .i64 n, .int .i64 lo, .int .i64 hi] w (Keeps (.bool r) w) := h ▸ within_k n lo hi w

theorem l00In_is (r : Bool) (n lo hi : Int) (w : World) (h : within n lo hi = r) : Calls Tryz.prog 72 #[.int .i64 n, .int .i64 lo, .int .i64 hi] w (Keeps (.bool r) w) := h ▸ l00In_k n lo hi w

theorem all_of_idx {α : Type} (d : α) (p : α → Bool) (l : List α) (h : ∀ i, i < l.length → p (l[i]?.getD d) = true) : l.all p = true := by
  rw [List.all_eq_true]
  intro x hx
  obtain ⟨i, hi, rfl⟩ := List.getElem_of_mem hx
  have := h i hi
  simpa [List.getElem?_eq_getElem hi] using this

theorem all_not_idx {α : Type} (d : α) (p : α → Bool) (l : List α) (i : Nat) (hi : i < l.length) (h : p (l[i]?.getD d) = false) : l.all p = false := by
  rw [Bool.eq_false_iff]
  intro ha
  rw [List.all_eq_true] at ha
  have := ha l[i] (List.getElem_mem hi)
  simp [List.getElem?_eq_getElem hi] at h
  rw [h] at this
  cases this

/-- Where a function answers yes for the first time, -1 where it never does. -/
def firstIdx {α : Type} (p : α → Bool) : List α → Int
  | [] => -1
  | a :: l => if p a then 0 else if firstIdx p l < 0 then -1 else firstIdx p l + 1

theorem firstIdx_none {α : Type} (p : α → Bool) (l : List α) (h : ∀ x, x ∈ l → p x = false) : firstIdx p l = -1 := by
  induction l with
  | nil => rfl
  | cons a l ih =>
    have h1 := ih (fun x hx => h x (by simp [hx]))
    simp [firstIdx, h a (by simp), h1]

theorem firstIdx_at {α : Type} (p : α → Bool) (l : List α) (k : Nat) (x : α) (hk : l[k]? = some x) (hx : p x = true) (h : ∀ i y, i < k → l[i]? = some y → p y = false) : firstIdx p l = k := by
  induction l generalizing k with
  | nil => simp at hk
  | cons a l ih =>
    cases k with
    | zero =>
      simp only [List.getElem?_cons_zero, Option.some.injEq] at hk
      subst hk
      simp [firstIdx, hx]
    | succ k =>
      have h0 := h 0 a (by omega) rfl
      have h1 := ih k (by simpa using hk) (fun i y hi hy => h (i + 1) y (by omega) (by simpa using hy))
      have h2 : ¬ ((k : Int) < 0) := by omega
      simp [firstIdx, h0, h1, h2]

theorem firstIdx_any {α : Type} (p : α → Bool) (l : List α) : decide (0 ≤ firstIdx p l) = l.any p := by
  induction l with
  | nil => rfl
  | cons a l ih =>
    rw [List.any_cons, ← ih]
    have e : firstIdx p (a :: l) = if p a = true then 0 else if firstIdx p l < 0 then -1 else firstIdx p l + 1 := rfl
    rw [e]
    by_cases h : p a = true
    · simp [h]
    · rw [if_neg h]
      have h' : p a = false := by simpa using h
      rw [h', Bool.false_or]
      by_cases h2 : firstIdx p l < 0
      · rw [if_pos h2, decide_eq_false (by omega), decide_eq_false (by omega)]
      · rw [if_neg h2, decide_eq_true (by omega), decide_eq_true (by omega)]

end Go.Proofs.YtfamhnogpcmbmaaGreatDoor

/-
  Plain lemmas on a range of numbers. No program is named here.
-/
namespace Go.Proofs.YtfamhnogpcmbmaaGreatDoor

theorem range_all {p : Nat → Bool} {n : Nat} (h : ∀ k, k < n → p k = true) : (List.range n).all p = true := by
  rw [List.all_eq_true]; intro x hx; exact h x (List.mem_range.1 hx)
theorem range_not {p : Nat → Bool} {n k : Nat} (hk : k < n) (h : p k = false) : (List.range n).all p = false := by
  rw [Bool.eq_false_iff]; intro ha; rw [List.all_eq_true] at ha; have := ha k (List.mem_range.2 hk); rw [h] at this; cases this

end Go.Proofs.YtfamhnogpcmbmaaGreatDoor

/-
  What may be written with a move: the program's and the reference's test of a text.
-/
namespace Go.Proofs.YtfamhnogpcmbmaaGreatDoor
open Go.RowKit Go.PlainAid

def outOk (t : ByteArray) : Bool := decide (t.size ≤ 3) && t.data.toList.all fun b => [97, 98, 99].contains b

theorem drop_all (p : UInt8 → Bool) : ∀ l : List UInt8, l.all p = true → l.dropWhile p = []
  | [], _ => rfl
  | b :: l, h => by
    rw [List.all_cons, Bool.and_eq_true] at h
    rw [List.dropWhile_cons, if_pos h.1]
    exact drop_all p l h.2
theorem drop_some (p : UInt8 → Bool) : ∀ l : List UInt8, l.all p = false → ∃ b r, l.dropWhile p = b :: r ∧ p b = false
  | [], h => by cases h
  | b :: l, h => by
    rw [List.dropWhile_cons]
    by_cases hb : p b = true
    · rw [if_pos hb]
      rw [List.all_cons, hb, Bool.true_and] at h
      exact drop_some p l h
    · rw [if_neg hb]
      exact ⟨b, l, rfl, by simpa using hb⟩
theorem trim_all (l cs : List UInt8) (h : l.all (fun b => cs.contains b) = true) : Lib.trimS l cs = [] := by
  have h1 : l.reverse.dropWhile (cs.contains ·) = [] := drop_all _ _ (by rw [List.all_reverse]; exact h)
  unfold Lib.trimS Lib.trimRightS Lib.trimLeftS
  rw [h1]
  rfl
theorem trim_some (l cs : List UInt8) (h : l.all (fun b => cs.contains b) = false) : Lib.trimS l cs ≠ [] := by
  obtain ⟨b, r, h1, h2⟩ := drop_some (cs.contains ·) l.reverse (by rw [List.all_reverse]; exact h)
  unfold Lib.trimS Lib.trimRightS Lib.trimLeftS
  rw [h1]
  intro e
  have h3 : (b :: r).reverse.all (cs.contains ·) = false := by rw [List.all_reverse, List.all_cons, h2]; rfl
  obtain ⟨b', r', h4, -⟩ := drop_some (cs.contains ·) _ h3
  rw [h4] at e
  cases e

set_option maxHeartbeats 1000000 in
theorem isOut_any (t : ByteArray) (w : World) (hs : t.size ≤ maxLen) :
    Calls Tryz.prog 29 #[.string t] w (Gives (.bool (outOk t)) w) := by
  have hcon := Any.strings_Trim_laid Tryz.lays160 (by kernel_rfl) t ⟨#[97, 98, 99]⟩ w hs (by decide) (ascii_of_all (by decide))
  change Calls Tryz.prog 60 _ _ (fun e w' => e = .returned (.string ⟨(Lib.trimS t.data.toList [97, 98, 99]).toArray⟩) ∧ Below w.heap.size w w') at hcon
  unfold outOk
  by_cases h3 : t.size ≤ 3
  case neg =>
    rw [decide_eq_false h3, Bool.false_and]
    have t1 : ¬ (t.size : Int) ≤ 3 := by omega
    clear hcon
    go_enter Tryz.func29, Tryz.ntmps29
    go_wp2
    go_ret
    exact ⟨rfl, Below.refl _ _⟩
  rw [decide_eq_true h3, Bool.true_and]
  have t1 : (t.size : Int) ≤ 3 := by omega
  cases hall : t.data.toList.all fun b => [97, 98, 99].contains b
  · have hne := trim_some _ _ hall
    generalize Lib.trimS t.data.toList [97, 98, 99] = r at hcon hne
    go_enter Tryz.func29, Tryz.ntmps29
    go_wp2_with fail
    refine hcon.mono ?_
    rintro e w1 ⟨rfl, hB⟩
    obtain ⟨b, r', rfl⟩ := List.exists_cons_of_ne_nil hne
    go_wp2
    go_ret
    exact ⟨rfl, hB⟩
  · have he := trim_all _ _ hall
    rw [he] at hcon
    go_enter Tryz.func29, Tryz.ntmps29
    go_wp2_with fail
    refine hcon.mono ?_
    rintro e w1 ⟨rfl, hB⟩
    go_wp2
    go_ret
    exact ⟨rfl, hB⟩

theorem isOut_is (r : Bool) (t : ByteArray) (w : World) (hr : outOk t = r) (hs : t.size ≤ maxLen) : Calls Tryz.prog 29 #[.string t] w (Gives (.bool r) w) := hr ▸ isOut_any t w hs

/-- A word in the first letters. -/
def wordIn (n : Int) (t : ByteArray) : Bool := (List.range t.size).all fun k => within (bt t k - 97) 0 (n - 1)

set_option maxHeartbeats 1000000 in
theorem l01Word_any (n : Int) (t : ByteArray) (w : World) (hn : 1 ≤ n ∧ n ≤ 100) (hs : t.size ≤ maxLen) :
    Calls Tryz.prog 94 #[.int .i64 n, .string t] w (Keeps (.bool (wordIn n t)) w) := by
  obtain ⟨m, hm⟩ : ∃ m, m = t.size := ⟨_, rfl⟩
  have hb := get_bt t
  have HW : Hid (wordIn n t = (List.range m).all fun k => within (bt t k - 97) 0 (n - 1)) := Lib.hid (by unfold wordIn; rw [hm])
  have wn : IntKind.i64.wrap (n - 1) = n - 1 := IntWalk.i64_in _ ⟨by omega, by omega⟩
  simp only [maxLen] at hs
  go_enter Tryz.func94, Tryz.ntmps94
  go_wp2
  go_loop [5] (fun i => ∃ k : Nat, k ≤ t.size ∧ i = .int .i64 k ∧ Hid (∀ i, i < k → within (bt t i - 97) 0 (n - 1) = true)) (fun i => t.size - (intOf i).toNat)
  case atStart => exact ⟨0, by omega, rfl, Lib.hid (fun i hi => absurd hi (by omega))⟩
  case round =>
    obtain ⟨k, hk, rfl, HE⟩ := hrel
    by_cases hlt : k < t.size
    case neg =>
      have t1 : ¬ (k : Int) < (t.size : Int) := by omega
      go_wp2
      go_ret
      have : wordIn n t = true := by rw [HW.out]; exact range_all (fun i hi => HE.out i (by omega))
      exact ⟨by rw [this]; rfl, rfl⟩
    have t1 : (k : Int) < (t.size : Int) := by omega
    have b0 := bt_nonneg t k
    have b1 := bt_le t k
    cases hok : within (bt t k - 97) 0 (n - 1)
    · have HOK := Lib.hid hok
      clear hok
      go_wp2_with fail
      refine (l00In_is false _ _ _ _ HOK.out).mono ?_
      rintro e w1 ⟨rfl, rfl⟩
      go_wp2
      go_ret
      have : wordIn n t = false := by rw [HW.out, hm]; exact range_not hlt HOK.out
      exact ⟨by rw [this]; rfl, rfl⟩
    · have HOK := Lib.hid hok
      clear hok
      go_wp2_with fail
      refine (l00In_is true _ _ _ _ HOK.out).mono ?_
      rintro e w1 ⟨rfl, rfl⟩
      go_wp2
      go_round
      case rel => exact ⟨k + 1, by omega, by go_num, Lib.hid (fun i hi => by by_cases h : i = k; (subst h; exact HOK.out); exact HE.out i (by omega))⟩
      case measure => simp [intOf]; omega

theorem l01Word_is (r : Bool) (n : Int) (t : ByteArray) (w : World) (hr : wordIn n t = r) (hn : 1 ≤ n ∧ n ≤ 100) (hs : t.size ≤ maxLen) :
    Calls Tryz.prog 94 #[.int .i64 n, .string t] w (Keeps (.bool r) w) := hr ▸ l01Word_any n t w hn hs

theorem abc_in (b : UInt8) : ([97, 98, 99] : List UInt8).contains b = within ((b.toNat : Int) - 97) 0 2 := by
  have key : (List.range 256).all (fun n => (([97, 98, 99] : List UInt8).contains (UInt8.ofNat n)) == within ((n : Int) - 97) 0 2) = true := by kernel_rfl
  have := List.all_eq_true.1 key b.toNat (List.mem_range.2 b.toNat_lt)
  simpa using this

theorem outOk_word (t : ByteArray) : outOk t = (decide (t.size ≤ 3) && wordIn 3 t) := by
  unfold outOk
  congr 1
  rw [Bool.eq_iff_iff, List.all_eq_true]
  unfold wordIn
  rw [List.all_eq_true]
  have hsz := Lib.size_eq t
  constructor
  · intro h k hk
    have hk := List.mem_range.1 hk
    have h1 := h (t.data.toList[k]'(by omega)) (List.getElem_mem _)
    rw [abc_in] at h1
    unfold bt
    rw [dif_pos hk]
    exact h1
  · intro h b hb
    obtain ⟨k, hk, rfl⟩ := List.getElem_of_mem hb
    have h1 := h k (List.mem_range.2 (by omega))
    unfold bt at h1
    rw [dif_pos (by omega)] at h1
    rw [abc_in]
    exact h1

set_option maxHeartbeats 1000000 in
theorem l07Text_any (t : ByteArray) (w : World) (hs : t.size ≤ maxLen) :
    Calls Tryz.prog 64 #[.string t] w (Keeps (.bool (outOk t)) w) := by
  rw [outOk_word]
  by_cases h3 : t.size ≤ 3
  case neg =>
    rw [decide_eq_false h3, Bool.false_and]
    have t1 : ¬ (t.size : Int) ≤ 3 := by omega
    go_enter Tryz.func64, Tryz.ntmps64
    go_wp2
    go_ret
    exact ⟨rfl, rfl⟩
  rw [decide_eq_true h3, Bool.true_and]
  have t1 : (t.size : Int) ≤ 3 := by omega
  cases hw : wordIn 3 t
  · have HW := Lib.hid hw
    clear hw
    go_enter Tryz.func64, Tryz.ntmps64
    go_wp2_with fail
    refine (l01Word_is false _ _ _ HW.out (by omega) hs).mono ?_
    rintro e w1 ⟨rfl, rfl⟩
    go_wp2
    go_ret
    exact ⟨rfl, rfl⟩
  · have HW := Lib.hid hw
    clear hw
    go_enter Tryz.func64, Tryz.ntmps64
    go_wp2_with fail
    refine (l01Word_is true _ _ _ HW.out (by omega) hs).mono ?_
    rintro e w1 ⟨rfl, rfl⟩
    go_wp2
    go_ret
    exact ⟨rfl, rfl⟩

theorem l07Text_is (r : Bool) (t : ByteArray) (w : World) (hr : outOk t = r) (hs : t.size ≤ maxLen) : Calls Tryz.prog 64 #[.string t] w (Keeps (.bool r) w) := hr ▸ l07Text_any t w hs

set_option maxHeartbeats 1000000 in
theorem notOut_any (t : ByteArray) (w : World) (hs : t.size ≤ maxLen) :
    Calls Tryz.prog 28 #[.string t] w (Gives (.bool (!outOk t)) w) := by
  obtain ⟨r, hr⟩ : ∃ r, r = outOk t := ⟨_, rfl⟩
  rw [← hr]
  have HR := Lib.hid hr.symm
  clear hr
  cases r <;>
  · go_enter Tryz.func28, Tryz.ntmps28
    go_wp2_with fail
    refine (isOut_is _ _ _ HR.out hs).mono ?_
    rintro e w1 ⟨rfl, hB⟩
    go_wp2
    go_ret
    exact ⟨rfl, hB⟩

end Go.Proofs.YtfamhnogpcmbmaaGreatDoor

/-
  What a right move is, and the contracts of the functions that ask it (written by a program of this claim's own, gen_moveok.py).
-/
namespace Go.Proofs.YtfamhnogpcmbmaaGreatDoor
open Go.RowKit

def isStopB (m : Move) : Bool := (m.to == -1 || m.to == -2) && m.dir == 0

/-- A turner's move is right for so many states and letters at the index of a letter or mark. -/
def moveOk (m : Move) (states letters at_ : Int) : Bool :=
  isStopB m || (within m.to 0 (states - 1) && within m.dir (-1) 1 && !(at_ == letters && m.dir == -1) && !(at_ == letters + 1 && m.dir == 1))

/-- A pebbler's. -/
def pmoveOk (m : PMove) (states letters at_ : Int) (lies : Bool) : Bool :=
  moveOk ⟨m.to, m.dir⟩ states letters at_ && within m.does 0 2 && (!(decide (m.to < 0) && m.does != 0) && !(lies && m.does == 1) && !(!lies && m.does == 2))

theorem isStop_any (m : Move) (w : World) : Calls Tryz.prog 84 #[.agg #[.int .i64 m.to, .int .i64 m.dir]] w (Gives (.bool (isStopB m)) w) := by
  cases h1 : (m.to == -1) <;> cases h2 : (m.to == -2) <;> cases h3 : (m.dir == 0)
  all_goals
    have hr := Lib.hid (show isStopB m = _ by unfold isStopB; rw [h1, h2, h3])
    go_enter Tryz.func84, Tryz.ntmps84
    go_wp2
    go_ret
    exact ⟨by rw [hr.out]; rfl, (Below.refl _ _).alloc (Nat.le_refl _) _⟩

theorem isStop_is (r : Bool) (m : Move) (w : World) (h : isStopB m = r) : Calls Tryz.prog 84 #[.agg #[.int .i64 m.to, .int .i64 m.dir]] w (Gives (.bool r) w) := h ▸ isStop_any m w

set_option maxHeartbeats 1000000 in
theorem isMove_any (m : Move) (states letters at_ : Int) (w : World) (hs : 0 ≤ states ∧ states ≤ 1152921504606846976) (hl : -1152921504606846976 ≤ letters ∧ letters ≤ 1152921504606846976) :
    Calls Tryz.prog 58 #[.agg #[.int .i64 m.to, .int .i64 m.dir], .int .i64 states, .int .i64 letters, .int .i64 at_] w (Gives (.bool (moveOk m states letters at_)) w) := by
  have hw1 : IntKind.i64.wrap (states - 1) = states - 1 := IntWalk.i64_in _ ⟨by omega, by omega⟩
  have hw2 : IntKind.i64.wrap (letters + 1) = letters + 1 := IntWalk.i64_in _ ⟨by omega, by omega⟩
  clear hs hl
  cases h0 : isStopB m
  case true =>
    have hr := Lib.hid (show moveOk m states letters at_ = true by unfold moveOk; rw [h0]; rfl)
    have H0 := Lib.hid h0; clear h0
    go_enter Tryz.func58, Tryz.ntmps58
    go_wp2_with fail
    generalize hW : w.alloc _ = w0
    obtain ⟨A0, hB⟩ := blk1 hW
    clear hW
    refine (isStop_is true m _ H0.out).mono ?_
    rintro e w1 ⟨rfl, hbl⟩
    have B1 := hB.trans (hbl.mono hB.size)
    clear hbl hB A0
    go_wp2
    go_ret
    exact ⟨by rw [hr.out]; rfl, B1⟩
  have H0 := Lib.hid h0
  cases h1 : within m.to 0 (states - 1)
  case false =>
    have hr := Lib.hid (show moveOk m states letters at_ = false by unfold moveOk; rw [h0, h1]; rfl)
    have H1 := Lib.hid h1; clear h0 h1
    go_enter Tryz.func58, Tryz.ntmps58
    go_wp2_with fail
    generalize hW : w.alloc _ = w0
    obtain ⟨A0, hB⟩ := blk1 hW
    clear hW
    refine (isStop_is false m _ H0.out).mono ?_
    rintro e w1 ⟨rfl, hbl⟩
    have B1 := hB.trans (hbl.mono hB.size)
    have A1 := A0.of hbl A0.lt
    have c0 := A1.cell 0 rfl
    have c1 := A1.cell 1 rfl
    clear hbl hB A0 A1
    have HB1 := Lib.hid B1; clear B1
    go_wp2_with fail
    refine (within_kis false _ _ _ _ H1.out).mono ?_
    rintro e w2 ⟨rfl, rfl⟩
    go_wp2
    go_ret
    exact ⟨by rw [hr.out]; rfl, HB1.out⟩
  have H1 := Lib.hid h1
  cases h2 : within m.dir (-1) 1
  case false =>
    have hr := Lib.hid (show moveOk m states letters at_ = false by unfold moveOk; rw [h0, h1, h2]; rfl)
    have H2 := Lib.hid h2; clear h0 h1 h2
    go_enter Tryz.func58, Tryz.ntmps58
    go_wp2_with fail
    generalize hW : w.alloc _ = w0
    obtain ⟨A0, hB⟩ := blk1 hW
    clear hW
    refine (isStop_is false m _ H0.out).mono ?_
    rintro e w1 ⟨rfl, hbl⟩
    have B1 := hB.trans (hbl.mono hB.size)
    have A1 := A0.of hbl A0.lt
    have c0 := A1.cell 0 rfl
    have c1 := A1.cell 1 rfl
    clear hbl hB A0 A1
    have HB1 := Lib.hid B1; clear B1
    go_wp2_with fail
    refine (within_kis true _ _ _ _ H1.out).mono ?_
    rintro e w2 ⟨rfl, rfl⟩
    go_wp2_with fail
    refine (within_kis false _ _ _ _ H2.out).mono ?_
    rintro e w3 ⟨rfl, rfl⟩
    go_wp2
    go_ret
    exact ⟨by rw [hr.out]; rfl, HB1.out⟩
  have H2 := Lib.hid h2
  cases h3 : (at_ == letters) <;> cases h4 : (m.dir == -1) <;> cases h5 : (at_ == letters + 1) <;> cases h6 : (m.dir == 1)
  all_goals
    have hr := Lib.hid (show moveOk m states letters at_ = _ by unfold moveOk; rw [h0, h1, h2, h3, h4, h5, h6])
    clear h0 h1 h2
    go_enter Tryz.func58, Tryz.ntmps58
    go_wp2_with fail
    generalize hW : w.alloc _ = w0
    obtain ⟨A0, hB⟩ := blk1 hW
    clear hW
    refine (isStop_is false m _ H0.out).mono ?_
    rintro e w1 ⟨rfl, hbl⟩
    have B1 := hB.trans (hbl.mono hB.size)
    have A1 := A0.of hbl A0.lt
    have c0 := A1.cell 0 rfl
    have c1 := A1.cell 1 rfl
    clear hbl hB A0 A1
    have HB1 := Lib.hid B1; clear B1
    go_wp2_with fail
    refine (within_kis true _ _ _ _ H1.out).mono ?_
    rintro e w2 ⟨rfl, rfl⟩
    go_wp2_with fail
    refine (within_kis true _ _ _ _ H2.out).mono ?_
    rintro e w3 ⟨rfl, rfl⟩
    go_wp2
    go_ret
    exact ⟨by rw [hr.out]; rfl, HB1.out⟩

theorem isMove_is (r : Bool) (m : Move) (states letters at_ : Int) (w : World) (hs : 0 ≤ states ∧ states ≤ 1152921504606846976) (hl : -1152921504606846976 ≤ letters ∧ letters ≤ 1152921504606846976) (h : moveOk m states letters at_ = r) :
    Calls Tryz.prog 58 #[.agg #[.int .i64 m.to, .int .i64 m.dir], .int .i64 states, .int .i64 letters, .int .i64 at_] w (Gives (.bool r) w) := h ▸ isMove_any m states letters at_ w hs hl

set_option maxHeartbeats 1000000 in
theorem l02Move_any (m : Move) (states letters at_ : Int) (w : World) (hs : 0 ≤ states ∧ states ≤ 1152921504606846976) (hl : -1152921504606846976 ≤ letters ∧ letters ≤ 1152921504606846976) :
    Calls Tryz.prog 93 #[.agg #[.int .i64 m.to, .int .i64 m.dir], .int .i64 states, .int .i64 letters, .int .i64 at_] w (Gives (.bool (moveOk m states letters at_)) w) := by
  have hw1 : IntKind.i64.wrap (states - 1) = states - 1 := IntWalk.i64_in _ ⟨by omega, by omega⟩
  have hw2 : IntKind.i64.wrap (letters + 1) = letters + 1 := IntWalk.i64_in _ ⟨by omega, by omega⟩
  clear hs hl
  cases h1 : (m.to == -1)
  case true =>
    have hr := Lib.hid (show moveOk m states letters at_ = (m.dir == 0) by have : m.to = -1 := (by simpa using h1); simp [moveOk, isStopB, within, this])
    go_enter Tryz.func93, Tryz.ntmps93
    go_wp2
    go_ret
    exact ⟨by rw [hr.out]; rfl, (Below.refl _ _).alloc (Nat.le_refl _) _⟩
  cases h2 : (m.to == -2)
  case true =>
    have hr := Lib.hid (show moveOk m states letters at_ = (m.dir == 0) by have : m.to = -2 := (by simpa using h2); simp [moveOk, isStopB, within, this])
    go_enter Tryz.func93, Tryz.ntmps93
    go_wp2
    go_ret
    exact ⟨by rw [hr.out]; rfl, (Below.refl _ _).alloc (Nat.le_refl _) _⟩
  have h0 : isStopB m = false := by unfold isStopB; rw [h1, h2]; rfl
  cases t1 : within m.to 0 (states - 1)
  case false =>
    have hr := Lib.hid (show moveOk m states letters at_ = false by unfold moveOk; rw [h0, t1]; rfl)
    have T1 := Lib.hid t1; clear h0 t1
    go_enter Tryz.func93, Tryz.ntmps93
    go_wp2_with fail
    generalize hW : w.alloc _ = w0
    obtain ⟨A0, hB⟩ := blk1 hW
    clear hW
    have c0 := A0.cell 0 rfl
    have c1 := A0.cell 1 rfl
    clear A0
    have HB1 := Lib.hid hB; clear hB
    refine (l00In_is false _ _ _ _ T1.out).mono ?_
    rintro e w2 ⟨rfl, rfl⟩
    go_wp2
    go_ret
    exact ⟨by rw [hr.out]; rfl, HB1.out⟩
  have T1 := Lib.hid t1
  cases t2 : within m.dir (-1) 1
  case false =>
    have hr := Lib.hid (show moveOk m states letters at_ = false by unfold moveOk; rw [h0, t1, t2]; rfl)
    have T2 := Lib.hid t2; clear h0 t1 t2
    go_enter Tryz.func93, Tryz.ntmps93
    go_wp2_with fail
    generalize hW : w.alloc _ = w0
    obtain ⟨A0, hB⟩ := blk1 hW
    clear hW
    have c0 := A0.cell 0 rfl
    have c1 := A0.cell 1 rfl
    clear A0
    have HB1 := Lib.hid hB; clear hB
    refine (l00In_is true _ _ _ _ T1.out).mono ?_
    rintro e w2 ⟨rfl, rfl⟩
    go_wp2_with fail
    refine (l00In_is false _ _ _ _ T2.out).mono ?_
    rintro e w3 ⟨rfl, rfl⟩
    go_wp2
    go_ret
    exact ⟨by rw [hr.out]; rfl, HB1.out⟩
  have T2 := Lib.hid t2
  cases h3 : (at_ == letters) <;> cases h4 : (m.dir == -1) <;> cases h5 : (at_ == letters + 1) <;> cases h6 : (m.dir == 1)
  all_goals
    have hr := Lib.hid (show moveOk m states letters at_ = _ by unfold moveOk; rw [h0, t1, t2, h3, h4, h5, h6])
    clear h0 t1 t2
    go_enter Tryz.func93, Tryz.ntmps93
    go_wp2_with fail
    generalize hW : w.alloc _ = w0
    obtain ⟨A0, hB⟩ := blk1 hW
    clear hW
    have c0 := A0.cell 0 rfl
    have c1 := A0.cell 1 rfl
    clear A0
    have HB1 := Lib.hid hB; clear hB
    refine (l00In_is true _ _ _ _ T1.out).mono ?_
    rintro e w2 ⟨rfl, rfl⟩
    go_wp2_with fail
    refine (l00In_is true _ _ _ _ T2.out).mono ?_
    rintro e w3 ⟨rfl, rfl⟩
    go_wp2
    go_ret
    exact ⟨by rw [hr.out]; rfl, HB1.out⟩

theorem l02Move_is (r : Bool) (m : Move) (states letters at_ : Int) (w : World) (hs : 0 ≤ states ∧ states ≤ 1152921504606846976) (hl : -1152921504606846976 ≤ letters ∧ letters ≤ 1152921504606846976) (h : moveOk m states letters at_ = r) :
    Calls Tryz.prog 93 #[.agg #[.int .i64 m.to, .int .i64 m.dir], .int .i64 states, .int .i64 letters, .int .i64 at_] w (Gives (.bool r) w) := h ▸ l02Move_any m states letters at_ w hs hl

end Go.Proofs.YtfamhnogpcmbmaaGreatDoor

/-
  Contracts of the program's size, isAlphabet and areStates.
-/
namespace Go.Proofs.YtfamhnogpcmbmaaGreatDoor
open Go.RowKit

theorem isAlphabet_any (n : Int) (w : World) : Calls Tryz.prog 55 #[.int .i64 n] w (Gives (.bool (within n 1 3)) w) := by
  go_enter Tryz.func55, Tryz.ntmps55
  go_wp2_with fail
  refine (within_any _ _ _ _).mono ?_
  rintro e w1 ⟨rfl, hbl⟩
  go_wp2
  go_ret
  exact ⟨rfl, hbl⟩

theorem within_is (r : Bool) (n lo hi : Int) (w : World) (h : within n lo hi = r) : Calls Tryz.prog 56 #[.int .i64 n, .int .i64 lo, .int .i64 hi] w (Gives (.bool r) w) := h ▸ within_any n lo hi w

theorem isAlphabet_is (r : Bool) (n : Int) (w : World) (h : within n 1 3 = r) : Calls Tryz.prog 55 #[.int .i64 n] w (Gives (.bool r) w) := h ▸ isAlphabet_any n w

/-- So many numbers, each of them a state. -/
def areStates (l : List Int) (count states : Int) : Bool := decide ((l.length : Int) = count) && l.all fun s => within s 0 (states - 1)

theorem any_not {α : Type} (p : α → Bool) (l : List α) : (!l.any fun x => !p x) = l.all p := by
  induction l with
  | nil => rfl
  | cons a l ih => rw [List.any_cons, List.all_cons, Bool.not_or, Bool.not_not, ih]

end Go.Proofs.YtfamhnogpcmbmaaGreatDoor

/-
  The length, asked by the program's own generic size (written by a program of this claim's own, gen_size.py).
-/
namespace Go.Proofs.YtfamhnogpcmbmaaGreatDoor
open Go.RowKit

theorem size_moves (v : Value) (l : List (Move)) (B : Nat) (w : World) (h : movesE.rd w B [v] l) : Calls Tryz.prog 57 #[v] w (Gives (.int .i64 l.length) w) := by
  have hl := len_le h
  obtain ⟨a, cap, he, h1, h2, -⟩ := h
  obtain rfl : v = .slice a l.length cap := by simpa using he
  clear he h1 h2
  go_enter Tryz.func57, Tryz.ntmps57
  go_wp2
  go_ret
  exact ⟨rfl, Below.refl _ _⟩

theorem size_movess (v : Value) (l : List (List Move)) (B : Nat) (w : World) (h : movessE.rd w B [v] l) : Calls Tryz.prog 47 #[v] w (Gives (.int .i64 l.length) w) := by
  have hl := len_le h
  obtain ⟨a, cap, he, h1, h2, -⟩ := h
  obtain rfl : v = .slice a l.length cap := by simpa using he
  clear he h1 h2
  go_enter Tryz.func47, Tryz.ntmps47
  go_wp2
  go_ret
  exact ⟨rfl, Below.refl _ _⟩

end Go.Proofs.YtfamhnogpcmbmaaGreatDoor

/-
  Contracts of the laws' own helpers at one slice type (written by a program of this claim's own, gen_leaf.py).
-/
namespace Go.Proofs.YtfamhnogpcmbmaaGreatDoor
open Go.RowKit

/-- The cells of one. -/
def cMove (x : Move) : List Value := [.int .i64 x.to, .int .i64 x.dir]

def bdMove (x : Move) : Prop := (-9223372036854775808 ≤ x.to ∧ x.to ≤ 9223372036854775807) ∧ (-9223372036854775808 ≤ x.dir ∧ x.dir ≤ 9223372036854775807)

theorem rd_moveE {w : World} {B : Nat} {cs : List Value} {x : Move} (h : moveE.rd w B cs x) : cs = cMove x ∧ bdMove x := by
  obtain ⟨c0, c1, rfl, ⟨rfl, b0⟩, ⟨rfl, b1⟩⟩ := h
  exact ⟨rfl, b0, b1⟩

theorem ow_moveE {w : World} {x : Move} (h : bdMove x) : moveE.ow w (cMove x) x [] := by
  obtain ⟨b0, b1⟩ := h
  exact ⟨_, _, [], [], rfl, rfl, ⟨⟨rfl, b0⟩, rfl⟩, ⟨⟨rfl, b1⟩, rfl⟩⟩

theorem ow_moveE_inv {w : World} {cs : List Value} {x : Move} {f : List Nat} (h : moveE.ow w cs x f) : cs = cMove x ∧ f = [] ∧ bdMove x := by
  have := rd_moveE (moveE.ow_rd (B := w.heap.size) (moveE.ow_lt h) h)
  obtain ⟨_, _, _, _, rfl, rfl, ⟨⟨_, _⟩, rfl⟩, ⟨⟨_, _⟩, rfl⟩⟩ := h
  exact ⟨this.1, rfl, this.2⟩

theorem rd_movesE {ty : TypeId} {w : World} {B : Nat} {v : Value} {l : List Move} (h : (sliceE moveE ty).rd w B [v] l) :
    ∃ a cap, v = .slice a l.length cap ∧ l.length ≤ cap ∧ cap ≤ 9223372036854775807 ∧ (a = none → cap = 0) ∧
      ∀ k, k < l.length → ∃ b o, a = some ⟨b, o, none⟩ ∧ b < B ∧ (w.cell? ⟨b, o + k * 2, none⟩ = some (.int .i64 (l[k]?.getD default).to) ∧ w.cell? ⟨b, o + k * 2 + 1, none⟩ = some (.int .i64 (l[k]?.getD default).dir)) ∧ bdMove (l[k]?.getD default) := by
  obtain ⟨a, cap, hv, h1, h2, h3, h4⟩ := h
  obtain rfl : v = .slice a l.length cap := by simpa using hv
  refine ⟨a, cap, rfl, h1, by simpa [maxLen] using h2, h3, fun k hk => ?_⟩
  obtain ⟨b, o, xs, e1, e2, e3, e4⟩ := h4 k _ (get_some default hk)
  obtain ⟨rfl, e5⟩ := rd_moveE e3
  have hs : moveE.size = 2 := rfl
  rw [hs] at e4
  exact ⟨b, o, e1, e2, ⟨by have := e4 0 _ rfl; simpa [Nat.add_assoc] using this, by have := e4 1 _ rfl; simpa [Nat.add_assoc] using this⟩, e5⟩

set_option maxHeartbeats 400000 in
theorem eqMove_0 (x0 x1 y0 y1 : Int) (w : World) (e0 : ¬ x0 = y0) : Calls Tryz.prog 112 #[.agg #[.int .i64 x0, .int .i64 x1], .agg #[.int .i64 y0, .int .i64 y1]] w (Gives (.bool false) w) := by
  have t0 : (x0 != y0) = true := by simp [e0]
  clear e0
  go_enter Tryz.func112, Tryz.ntmps112
  go_wp2
  go_ret
  exact ⟨rfl, ((Below.refl _ _).alloc (Nat.le_refl _) _).alloc (by simp) _⟩

set_option maxHeartbeats 400000 in
theorem eqMove_1 (x0 x1 y0 y1 : Int) (w : World) (e0 : x0 = y0) (e1 : ¬ x1 = y1) : Calls Tryz.prog 112 #[.agg #[.int .i64 x0, .int .i64 x1], .agg #[.int .i64 y0, .int .i64 y1]] w (Gives (.bool false) w) := by
  have t0 : (x0 != y0) = false := by simp [e0]
  clear e0
  have t1 : (x1 != y1) = true := by simp [e1]
  clear e1
  go_enter Tryz.func112, Tryz.ntmps112
  go_wp2
  go_ret
  exact ⟨rfl, ((Below.refl _ _).alloc (Nat.le_refl _) _).alloc (by simp) _⟩

set_option maxHeartbeats 400000 in
theorem eqMove_2 (x0 x1 y0 y1 : Int) (w : World) (e0 : x0 = y0) (e1 : x1 = y1) : Calls Tryz.prog 112 #[.agg #[.int .i64 x0, .int .i64 x1], .agg #[.int .i64 y0, .int .i64 y1]] w (Gives (.bool true) w) := by
  have t0 : (x0 != y0) = false := by simp [e0]
  clear e0
  have t1 : (x1 != y1) = false := by simp [e1]
  clear e1
  go_enter Tryz.func112, Tryz.ntmps112
  go_wp2
  go_ret
  exact ⟨rfl, ((Below.refl _ _).alloc (Nat.le_refl _) _).alloc (by simp) _⟩

theorem eqMove_any (x y : Move) (w : World) : Calls Tryz.prog 112 #[.agg #[.int .i64 x.to, .int .i64 x.dir], .agg #[.int .i64 y.to, .int .i64 y.dir]] w (Gives (.bool (decide (x = y))) w) := by
  obtain ⟨x0, x1⟩ := x
  obtain ⟨y0, y1⟩ := y
  dsimp only
  by_cases e0 : x0 = y0
  case neg => rw [decide_eq_false (fun e => e0 (by injection e))]; exact eqMove_0 _ _ _ _ w e0
  by_cases e1 : x1 = y1
  case neg => rw [decide_eq_false (fun e => e1 (by injection e))]; exact eqMove_1 _ _ _ _ w e0 e1
  rw [decide_eq_true (by rw [e0, e1])]; exact eqMove_2 _ _ _ _ w e0 e1

theorem eqMove_is (r : Bool) (x y : Move) (w : World) (h : decide (x = y) = r) : Calls Tryz.prog 112 #[.agg #[.int .i64 x.to, .int .i64 x.dir], .agg #[.int .i64 y.to, .int .i64 y.dir]] w (Gives (.bool r) w) := h ▸ eqMove_any x y w

theorem info_MoveS : (Tryz.prog.info? 75).map (fun i => (i.zero, i.size, i.bytes)) = some (some (.agg #[.int .i64 0, .int .i64 0]), 2, 16) := by kernel_rfl

set_option maxHeartbeats 1000000 in
theorem eqMoveS_any (va vb : Value) (la lb : List Move) (B B' : Nat) (w : World) (ha : movesE.rd w B [va] la) (hb : movesE.rd w B' [vb] lb) :
    Calls Tryz.prog 95 #[va, vb] w (Gives (.bool (decide (la = lb))) w) := by
  obtain ⟨a, ca, rfl, a1, a2, -, a4⟩ := rd_movesE ha
  obtain ⟨b, cb, rfl, b1, b2, -, b4⟩ := rd_movesE hb
  clear ha hb
  have H4 := Lib.hid a4; clear a4
  have K4 := Lib.hid b4; clear b4
  by_cases hlen : la.length = lb.length
  · obtain ⟨n, hn⟩ : ∃ n, n = la.length := ⟨_, rfl⟩
    rw [← hn] at hlen H4 a1 ⊢
    rw [← hlen] at K4 b1 ⊢
    have Hn := Lib.hid hn; clear hn
    have Hl := Lib.hid hlen; clear hlen
    go_enter Tryz.func95, Tryz.ntmps95
    go_wp2
    go_loopw [5] (fun i wr => ∃ k : Nat, k ≤ n ∧ i = .int .i64 k ∧ Below w.heap.size w wr ∧ Hid (∀ i, i < k → la[i]?.getD default = lb[i]?.getD default)) (fun i _ => n - (intOf i).toNat)
    case atStart => exact ⟨0, by omega, rfl, Below.refl _ _, Lib.hid (fun i hi => absurd hi (by omega))⟩
    case round =>
      obtain ⟨k, hk, rfl, hB, HE⟩ := hrel
      by_cases hlt : k < n
      · obtain ⟨p, o, rfl, -, ⟨hp0, hp1⟩, -⟩ := H4.out k hlt
        obtain ⟨p', o', rfl, -, ⟨hq0, hq1⟩, -⟩ := K4.out k hlt
        have p0 := (hB.cell (World.block_lt_of_cell? w _ hp0)).trans hp0
        have p1 := (hB.cell (World.block_lt_of_cell? w _ hp1)).trans hp1
        have q0 := (hB.cell (World.block_lt_of_cell? w _ hq0)).trans hq0
        have q1 := (hB.cell (World.block_lt_of_cell? w _ hq1)).trans hq1
        have g1 : p < wr.heap.size := World.block_lt_of_cell? wr _ p0
        have g2 : p' < wr.heap.size := World.block_lt_of_cell? wr _ q0
        have hov := cell_over wr
        clear hp0 hp1 hq0 hq1
        generalize hx : la[k]?.getD default = x at *
        generalize hy : lb[k]?.getD default = y at *
        have HX := Lib.hid hx; have HY := Lib.hid hy; clear hx hy
        by_cases he : x = y
        · have He := Lib.hid he; clear he
          go_wp2
          refine wp_region_over (by kernel_rfl) (by kernel_rfl) ?_
          repeat (go_big_quiet_step ((go_at_call 112; exact calls_over (eqMove_is true x y _ (decide_eq_true He.out)))))
          refine wpQuiet_nil ?_
          intro w1 hw1
          go_wp2
          go_roundw
          case rel => exact ⟨k + 1, by omega, by go_num, hB.trans (hw1.mono hB.size), Lib.hid (fun i hi => by by_cases h : i = k; (subst h; rw [HX.out, HY.out]; exact He.out); exact HE.out i (by omega))⟩
          case measure => simp [intOf]; omega
        · have He := Lib.hid he; clear he
          go_wp2
          refine wp_region_over (by kernel_rfl) (by kernel_rfl) ?_
          repeat (go_big_quiet_step ((go_at_call 112; exact calls_over (eqMove_is false x y _ (decide_eq_false He.out)))))
          refine wpQuiet_nil ?_
          intro w1 hw1
          go_wp2
          go_ret
          have : la ≠ lb := fun e => He.out (by rw [← HX.out, ← HY.out, e])
          exact ⟨by simp [this], hB.trans (hw1.mono hB.size)⟩
      · obtain rfl : k = n := by omega
        go_wp2
        go_ret
        have : la = lb := ext_getD default (by rw [← Hn.out, Hl.out]) (fun i hi => HE.out i (by rw [Hn.out]; exact hi))
        exact ⟨by simp [this], hB⟩
  · have hb := bne_len hlen
    have : la ≠ lb := fun e => hlen (by rw [e])
    have Ht := Lib.hid this; clear this
    go_enter Tryz.func95, Tryz.ntmps95
    go_wp2
    go_ret
    exact ⟨by simp [Ht.out], Below.refl _ _⟩

theorem eqMoveS_is (r : Bool) (va vb : Value) (la lb : List Move) (B B' : Nat) (w : World) (hr : decide (la = lb) = r) (ha : movesE.rd w B [va] la) (hb : movesE.rd w B' [vb] lb) :
    Calls Tryz.prog 95 #[va, vb] w (Gives (.bool r) w) := hr ▸ eqMoveS_any va vb la lb B B' w ha hb

end Go.Proofs.YtfamhnogpcmbmaaGreatDoor

/-
  ValidTurner of the program: what it answers.
-/
namespace Go.Proofs.YtfamhnogpcmbmaaGreatDoor
open Go.RowKit

/-- A row of a turner's table is right: its length, and each of its moves. -/
def mrowOk (row : List Move) (n letters : Int) : Bool :=
  decide ((row.length : Int) = letters + 2) && (List.range row.length).all fun k => moveOk (row[k]?.getD default) n letters (k : Int)

def validTurn (p : Turner) : Bool :=
  within p.letters 1 3 && (within p.moves.length 1 12 && (within p.start 0 (p.moves.length - 1) && p.moves.all fun row => mrowOk row p.moves.length p.letters))

section
variable (cs : List Value) (p : Turner) (B : Nat) (w : World) (hB0 : B ≤ w.heap.size) (h : turnE.rd w B cs p)
include hB0 h

set_option maxHeartbeats 1000000 in
theorem validTurn_no1 (h1 : within p.letters 1 3 = false) : Calls Tryz.prog 26 #[.agg cs.toArray] w (Gives (.bool false) w) := by
  obtain ⟨v2, rfl, -, -, hh2⟩ := rd_Turner h
  obtain ⟨a, cap, rfl, a1, a2, -, a4⟩ := rd_slice1 rfl hh2
  obtain ⟨n, hn⟩ : ∃ n, n = p.moves.length := ⟨_, rfl⟩
  have HN : Hid (n = p.moves.length) := Lib.hid hn
  rw [← hn] at a1 a4 hh2 ⊢
  have H2 := Lib.hid hh2
  have T1 := Lib.hid h1
  clear h hh2 hn a4 h1
  go_enter Tryz.func26, Tryz.ntmps26
  go_wp2_with fail
  generalize hW : w.alloc _ = w0
  obtain ⟨A0, hB⟩ := blk1 hW
  clear hW
  refine (size_movess _ p.moves B _ (movessE.rd_of (hB.mono hB0) H2.out)).mono ?_
  rintro e w1 ⟨rfl, b⟩
  rw [← HN.out]
  have A0 := A0.of b A0.lt
  have c0 := A0.cell 0 rfl
  have c1 := A0.cell 1 rfl
  have c2 := A0.cell 2 rfl
  have HB := Lib.hid (hB.trans (b.mono hB.size))
  have HA := Lib.hid A0
  clear A0 hB b
  go_wp2_with fail
  refine (isAlphabet_is false _ _ T1.out).mono ?_
  rintro e w2 ⟨rfl, b⟩
  have HB := Lib.hid (HB.out.trans (b.mono HB.out.size))
  have HA := Lib.hid (HA.out.of b HA.out.lt)
  have c0 := HA.out.cell 0 rfl
  have c1 := HA.out.cell 1 rfl
  have c2 := HA.out.cell 2 rfl
  clear b
  go_wp2
  go_ret
  exact ⟨rfl, HB.out⟩

set_option maxHeartbeats 1000000 in
theorem validTurn_no2 (h1 : within p.letters 1 3 = true) (h2 : within p.moves.length 1 12 = false) : Calls Tryz.prog 26 #[.agg cs.toArray] w (Gives (.bool false) w) := by
  obtain ⟨v2, rfl, -, -, hh2⟩ := rd_Turner h
  obtain ⟨a, cap, rfl, a1, a2, -, a4⟩ := rd_slice1 rfl hh2
  obtain ⟨n, hn⟩ : ∃ n, n = p.moves.length := ⟨_, rfl⟩
  have HN : Hid (n = p.moves.length) := Lib.hid hn
  rw [← hn] at a1 a4 h2 hh2 ⊢
  have H2 := Lib.hid hh2
  have T1 := Lib.hid h1
  have T2 := Lib.hid h2
  clear h hh2 hn a4 h1 h2
  go_enter Tryz.func26, Tryz.ntmps26
  go_wp2_with fail
  generalize hW : w.alloc _ = w0
  obtain ⟨A0, hB⟩ := blk1 hW
  clear hW
  refine (size_movess _ p.moves B _ (movessE.rd_of (hB.mono hB0) H2.out)).mono ?_
  rintro e w1 ⟨rfl, b⟩
  rw [← HN.out]
  have A0 := A0.of b A0.lt
  have c0 := A0.cell 0 rfl
  have c1 := A0.cell 1 rfl
  have c2 := A0.cell 2 rfl
  have HB := Lib.hid (hB.trans (b.mono hB.size))
  have HA := Lib.hid A0
  clear A0 hB b
  go_wp2_with fail
  refine (isAlphabet_is true _ _ T1.out).mono ?_
  rintro e w2 ⟨rfl, b⟩
  have HB := Lib.hid (HB.out.trans (b.mono HB.out.size))
  have HA := Lib.hid (HA.out.of b HA.out.lt)
  have c0 := HA.out.cell 0 rfl
  have c1 := HA.out.cell 1 rfl
  have c2 := HA.out.cell 2 rfl
  clear b
  go_wp2_with fail
  refine (within_kis false _ _ _ _ T2.out).mono ?_
  rintro e w3 ⟨rfl, rfl⟩
  go_wp2
  go_ret
  exact ⟨rfl, HB.out⟩

set_option maxHeartbeats 1000000 in
theorem validTurn_no3 (h1 : within p.letters 1 3 = true) (h2 : within p.moves.length 1 12 = true) (h3 : within p.start 0 (p.moves.length - 1) = false) : Calls Tryz.prog 26 #[.agg cs.toArray] w (Gives (.bool false) w) := by
  obtain ⟨v2, rfl, -, -, hh2⟩ := rd_Turner h
  obtain ⟨a, cap, rfl, a1, a2, -, a4⟩ := rd_slice1 rfl hh2
  obtain ⟨n, hn⟩ : ∃ n, n = p.moves.length := ⟨_, rfl⟩
  have HN : Hid (n = p.moves.length) := Lib.hid hn
  rw [← hn] at a1 a4 h2 h3 hh2 ⊢
  have H2 := Lib.hid hh2
  have T1 := Lib.hid h1
  have T2 := Lib.hid h2
  have hn1 := (within_true.1 h2)
  have T3 := Lib.hid h3
  have hw : IntKind.i64.wrap ((n : Int) - 1) = (n : Int) - 1 := IntWalk.i64_in _ ⟨by omega, by omega⟩
  clear hn1
  clear h hh2 hn a4 h1 h2 h3
  go_enter Tryz.func26, Tryz.ntmps26
  go_wp2_with fail
  generalize hW : w.alloc _ = w0
  obtain ⟨A0, hB⟩ := blk1 hW
  clear hW
  refine (size_movess _ p.moves B _ (movessE.rd_of (hB.mono hB0) H2.out)).mono ?_
  rintro e w1 ⟨rfl, b⟩
  rw [← HN.out]
  have A0 := A0.of b A0.lt
  have c0 := A0.cell 0 rfl
  have c1 := A0.cell 1 rfl
  have c2 := A0.cell 2 rfl
  have HB := Lib.hid (hB.trans (b.mono hB.size))
  have HA := Lib.hid A0
  clear A0 hB b
  go_wp2_with fail
  refine (isAlphabet_is true _ _ T1.out).mono ?_
  rintro e w2 ⟨rfl, b⟩
  have HB := Lib.hid (HB.out.trans (b.mono HB.out.size))
  have HA := Lib.hid (HA.out.of b HA.out.lt)
  have c0 := HA.out.cell 0 rfl
  have c1 := HA.out.cell 1 rfl
  have c2 := HA.out.cell 2 rfl
  clear b
  go_wp2_with fail
  refine (within_kis true _ _ _ _ T2.out).mono ?_
  rintro e w3 ⟨rfl, rfl⟩
  go_wp2_with fail
  refine (within_kis false _ _ _ _ T3.out).mono ?_
  rintro e w4 ⟨rfl, rfl⟩
  go_wp2
  go_ret
  exact ⟨rfl, HB.out⟩

set_option maxHeartbeats 1000000 in
theorem validTurn_yes (h1 : within p.letters 1 3 = true) (h2 : within p.moves.length 1 12 = true) (h3 : within p.start 0 (p.moves.length - 1) = true) : Calls Tryz.prog 26 #[.agg cs.toArray] w (Gives (.bool (p.moves.all fun row => mrowOk row p.moves.length p.letters)) w) := by
  obtain ⟨v2, rfl, -, -, hh2⟩ := rd_Turner h
  obtain ⟨a, cap, rfl, a1, a2, -, a4⟩ := rd_slice1 rfl hh2
  obtain ⟨n, hn⟩ : ∃ n, n = p.moves.length := ⟨_, rfl⟩
  have HN : Hid (n = p.moves.length) := Lib.hid hn
  rw [← hn] at a1 a4 h2 h3 hh2 ⊢
  have H2 := Lib.hid hh2
  have T1 := Lib.hid h1
  have T2 := Lib.hid h2
  have hn1 := (within_true.1 h2)
  have T3 := Lib.hid h3
  have hw : IntKind.i64.wrap ((n : Int) - 1) = (n : Int) - 1 := IntWalk.i64_in _ ⟨by omega, by omega⟩
  have hl1 := within_true.1 h1
  have A4 := Lib.hid a4
  clear h hh2 hn a4 h1 h2 h3
  go_enter Tryz.func26, Tryz.ntmps26
  go_wp2_with fail
  generalize hW : w.alloc _ = w0
  obtain ⟨A0, hB⟩ := blk1 hW
  clear hW
  refine (size_movess _ p.moves B _ (movessE.rd_of (hB.mono hB0) H2.out)).mono ?_
  rintro e w1 ⟨rfl, b⟩
  rw [← HN.out]
  have A0 := A0.of b A0.lt
  have c0 := A0.cell 0 rfl
  have c1 := A0.cell 1 rfl
  have c2 := A0.cell 2 rfl
  have HB := Lib.hid (hB.trans (b.mono hB.size))
  have HA := Lib.hid A0
  clear A0 hB b
  go_wp2_with fail
  refine (isAlphabet_is true _ _ T1.out).mono ?_
  rintro e w2 ⟨rfl, b⟩
  have HB := Lib.hid (HB.out.trans (b.mono HB.out.size))
  have HA := Lib.hid (HA.out.of b HA.out.lt)
  have c0 := HA.out.cell 0 rfl
  have c1 := HA.out.cell 1 rfl
  have c2 := HA.out.cell 2 rfl
  clear b
  go_wp2_with fail
  refine (within_kis true _ _ _ _ T2.out).mono ?_
  rintro e w3 ⟨rfl, rfl⟩
  go_wp2_with fail
  refine (within_kis true _ _ _ _ T3.out).mono ?_
  rintro e w4 ⟨rfl, rfl⟩
  go_wp2
  clear c0 c1
  go_loopw [31] (fun i wr => ∃ k : Nat, k ≤ n ∧ i = .int .i64 k ∧ Below w.heap.size w wr ∧ Blk wr w.heap.size [.int .i64 p.letters, .int .i64 p.start, .slice a n cap] 26 ∧ Hid (∀ i, i < k → mrowOk (p.moves[i]?.getD default) n p.letters = true)) (fun i _ => n - (intOf i).toNat)
  case atStart => exact ⟨0, by omega, rfl, HB.out, HA.out, Lib.hid (fun i hi => absurd hi (by omega))⟩
  case round =>
    obtain ⟨k, hk, rfl, hB, hA, HE⟩ := hrel
    by_cases hlt : k < n
    case neg =>
      obtain rfl : k = n := by omega
      go_wp2
      go_ret
      have : (p.moves.all fun row => mrowOk row (k : Int) p.letters) = true := all_of_idx default _ _ (fun i hi => HE.out i (by rw [HN.out]; exact hi))
      exact ⟨by rw [this]; rfl, hB⟩
    obtain ⟨b, o, vk, rfl, -, hc, hr⟩ := A4.out k hlt
    have g1 := (hB.cell (World.block_lt_of_cell? w _ hc)).trans hc
    have R := Lib.hid (movesE.rd_of (hB.mono hB0) hr)
    have R0 := Lib.hid hr; clear hr hc
    obtain ⟨row, hrow⟩ : ∃ x, x = p.moves[k]?.getD default := ⟨_, rfl⟩
    rw [← hrow] at R R0
    have HROW := Lib.hid hrow; clear hrow
    obtain ⟨ra, rcap, rfl, r1, r2, -, r4⟩ := rd_movesE R0.out
    clear R0
    have R4 := Lib.hid r4; clear r4
    have c0 := hA.cell 0 rfl
    have hA' := Lib.hid hA; have la := hA.lt; clear hA
    have HBr := Lib.hid hB; clear hB
    have hwl1 : IntKind.i64.wrap (p.letters + 2) = p.letters + 2 := IntWalk.i64_in _ ⟨by omega, by omega⟩
    have hov := cell_over wr
    by_cases hlen : (row.length : Int) = p.letters + 2
    case neg =>
      have hb : ((row.length : Int) != p.letters + 2) = true := by simpa using hlen
      have hno := Lib.hid (show mrowOk row n p.letters = false by unfold mrowOk; rw [decide_eq_false hlen]; rfl)
      clear hlen
      go_wp2
      refine wp_region_over (by kernel_rfl) (by kernel_rfl) ?_
      repeat (go_big_quiet_step ((go_at_call 57; exact calls_over (size_moves _ row _ _ (movesE.rd_of ((below_over wr _).mono (Nat.le_trans hB0 HBr.out.size)) R.out)))))
      refine wpQuiet_nil ?_
      intro w5 hw5
      go_wp2
      go_ret
      have : (p.moves.all fun row => mrowOk row (n : Int) p.letters) = false := all_not_idx default _ _ k (by rw [← HN.out]; exact hlt) (by rw [← HROW.out]; exact hno.out)
      exact ⟨by rw [this]; rfl, HBr.out.trans (hw5.mono HBr.out.size)⟩
    have hb : ((row.length : Int) != p.letters + 2) = false := by simpa using hlen
    have Hlen := Lib.hid hlen; clear hlen
    go_wp2
    refine wp_region_over (by kernel_rfl) (by kernel_rfl) ?_
    repeat (go_big_quiet_step ((go_at_call 57; exact calls_over (size_moves _ row _ _ (movesE.rd_of ((below_over wr _).mono (Nat.le_trans hB0 HBr.out.size)) R.out)))))
    refine wpQuiet_nil ?_
    intro w5 hw5
    go_wp2
    have hA5 := Lib.hid (hA'.out.of hw5 la)
    have hB5 := Lib.hid (HBr.out.trans (hw5.mono HBr.out.size))
    clear hw5 hov c0 g1
    have hrl : row.length ≤ 5 := by have := Hlen.out; omega
    have hrl' : 2 ≤ row.length := by have := Hlen.out; omega
    obtain ⟨m, hm⟩ : ∃ m, m = row.length := ⟨_, rfl⟩
    rw [← hm] at hrl hrl' R4 ⊢
    have HM := Lib.hid hm; clear hm
    go_loopw [43] (fun i wr => ∃ c : Nat, c ≤ m ∧ i = .int .i64 c ∧ Below w.heap.size w wr ∧ Blk wr w.heap.size [.int .i64 p.letters, .int .i64 p.start, .slice (some ⟨b, o, none⟩) n cap] 26 ∧ Hid (∀ i, i < c → moveOk (row[i]?.getD default) n p.letters (i : Int) = true)) (fun i _ => m - (intOf i).toNat)
    case atStart => exact ⟨0, by omega, rfl, hB5.out, hA5.out, Lib.hid (fun i hi => absurd hi (by omega))⟩
    case round =>
      obtain ⟨c, hc, rfl, hB, hA, HC⟩ := hrel
      by_cases hcm : c < m
      case neg =>
        obtain rfl : c = m := by omega
        have hyes : Hid (mrowOk row n p.letters = true) := Lib.hid (by unfold mrowOk; rw [decide_eq_true Hlen.out, Bool.true_and]; exact range_all (fun i hi => HC.out i (by rw [HM.out]; exact hi)))
        go_wp2
        go_roundw
        case rel => exact ⟨k + 1, by omega, by go_num, hB, hA, Lib.hid (fun i hi => by by_cases h : i = k; (subst h; rw [← HROW.out]; exact hyes.out); exact HE.out i (by omega))⟩
        case measure => simp [intOf]; omega
      obtain ⟨s, t, rfl, -, ⟨hp0, hp1⟩, -⟩ := R4.out c hcm
      have l0 := World.block_lt_of_cell? w _ hp0
      have p0 := fun o => ((hB.alloc hB.size o).cell l0).trans hp0
      have q0 := (hB.cell l0).trans hp0
      have q1 := (hB.cell (World.block_lt_of_cell? w _ hp1)).trans hp1
      clear hp0 hp1 l0 p0
      have d0 := fun o => (hA.alloc o).cell 0 rfl
      have HA5 := Lib.hid hA; clear hA
      have HB5 := Lib.hid hB; clear hB
      generalize hmv : row[c]?.getD default = mv at *
      have HMV := Lib.hid hmv; clear hmv
      cases hok : moveOk mv n p.letters (c : Int)
      case false =>
        have HOK := Lib.hid hok; clear hok
        go_wp2_with fail
        refine (isMove_is false mv _ _ _ _ ⟨by omega, by omega⟩ ⟨by omega, by omega⟩ HOK.out).mono ?_
        rintro e w6 ⟨rfl, b6⟩
        have b6 := ((Below.refl _ wr).alloc (Nat.le_refl _) _).trans (b6.mono (by simp))
        have HB6 := Lib.hid (HB5.out.trans (b6.mono HB5.out.size))
        clear b6
        have hno : Hid (mrowOk row n p.letters = false) := Lib.hid (by unfold mrowOk; rw [decide_eq_true Hlen.out, Bool.true_and]; exact range_not (by rw [← HM.out]; exact hcm) (by rw [HMV.out]; exact HOK.out))
        go_wp2
        go_ret
        have : (p.moves.all fun row => mrowOk row (n : Int) p.letters) = false := all_not_idx default _ _ k (by rw [← HN.out]; exact hlt) (by rw [← HROW.out]; exact hno.out)
        exact ⟨by rw [this]; rfl, HB6.out⟩
      have HOK := Lib.hid hok; clear hok
      go_wp2_with fail
      refine (isMove_is true mv _ _ _ _ ⟨by omega, by omega⟩ ⟨by omega, by omega⟩ HOK.out).mono ?_
      rintro e w6 ⟨rfl, b6⟩
      have b6 := ((Below.refl _ wr).alloc (Nat.le_refl _) _).trans (b6.mono (by simp))
      have HB6 := Lib.hid (HB5.out.trans (b6.mono HB5.out.size))
      have HA6 := Lib.hid (HA5.out.of b6 HA5.out.lt)
      clear b6
      go_wp2
      go_roundw
      case rel => exact ⟨c + 1, by omega, by go_num, HB6.out, HA6.out, Lib.hid (fun i hi => by by_cases h : i = c; (subst h; rw [HMV.out]; exact HOK.out); exact HC.out i (by omega))⟩
      case measure => simp [intOf]; omega

end

theorem validTurn_any (cs : List Value) (p : Turner) (B : Nat) (w : World) (hB0 : B ≤ w.heap.size) (h : turnE.rd w B cs p) :
    Calls Tryz.prog 26 #[.agg cs.toArray] w (Gives (.bool (validTurn p)) w) := by
  unfold validTurn
  cases h1 : within p.letters 1 3 with
  | false => rw [Bool.false_and]; exact validTurn_no1 cs p B w hB0 h h1
  | true =>
    rw [Bool.true_and]
    cases h2 : within p.moves.length 1 12 with
    | false => rw [Bool.false_and]; exact validTurn_no2 cs p B w hB0 h h1 h2
    | true =>
      rw [Bool.true_and]
      cases h3 : within p.start 0 (p.moves.length - 1) with
      | false => rw [Bool.false_and]; exact validTurn_no3 cs p B w hB0 h h1 h2 h3
      | true => rw [Bool.true_and]; exact validTurn_yes cs p B w hB0 h h1 h2 h3

end Go.Proofs.YtfamhnogpcmbmaaGreatDoor

/-
  Contracts of slices.IndexFunc and slices.ContainsFunc at slices of slices (written by a program of this claim's own, gen_funcs.py).
-/
namespace Go.Proofs.YtfamhnogpcmbmaaGreatDoor
open Go.RowKit

set_option maxHeartbeats 400000 in
theorem indexFunc_strs (v : Value) (l : List (ByteArray)) (B : Nat) (w : World) (f : FuncId) (x y : Array Value) (p : ByteArray → Bool) (hB0 : B ≤ w.heap.size) (h : strsE.rd w B [v] l)
    (hcf : ∀ args w1, (callFunc f args).run Tryz.prog w1 = .ok (.enter f args) w1)
    (hf : ∀ vk z w1, Below w.heap.size w w1 → strE.rd w1 B [vk] z → Calls Tryz.prog f (x.push vk ++ y) w1 (Gives (.bool (p z)) w1)) :
    Calls Tryz.prog 59 #[v, .func (.func f) x y] w (Gives (.int .i64 (firstIdx p l)) w) := by
  obtain ⟨a, cap, rfl, h1, h2, -, h4⟩ := rd_slice1 rfl h
  obtain ⟨n, hn⟩ : ∃ n, n = l.length := ⟨_, rfl⟩
  rw [← hn] at h4 h1 ⊢
  have Hn := Lib.hid hn; clear hn h
  have H4 := Lib.hid h4; clear h4
  have Hf := Lib.hid hf; clear hf
  go_enter Tryz.func59, Tryz.ntmps59
  go_wp2
  go_loopw [4, 5, 8] (fun _ _ i wr => ∃ k : Nat, k ≤ n ∧ i = .int .i64 k ∧ Below w.heap.size w wr ∧ Hid (∀ i y, i < k → l[i]? = some y → p y = false)) (fun _ _ i _ => n - (intOf i).toNat)
  case atStart => exact ⟨0, by omega, rfl, Below.refl _ _, Lib.hid (fun i y hi => absurd hi (by omega))⟩
  case round =>
    obtain ⟨k, hk, rfl, hB, HE⟩ := hrel
    by_cases hlt : k < n
    · obtain ⟨b, o, vk, rfl, -, hc, hr⟩ := H4.out k hlt
      have c1 := (hB.cell (World.block_lt_of_cell? w _ hc)).trans hc
      have HR := Lib.hid (strE.rd_of (hB.mono hB0) hr)
      clear hc hr
      have hkl := get_some default (l := l) (k := k) (by rw [← Hn.out]; exact hlt)
      have HK := Lib.hid hkl; clear hkl
      generalize l[k]?.getD default = z at *
      go_wp2_with fail
      refine (Hf.out _ z _ hB HR.out).mono ?_
      rintro e w1 ⟨rfl, hbl⟩
      have B1 := Lib.hid (hB.trans (hbl.mono hB.size)); clear hB hbl
      by_cases hp : p z = true
      · go_wp2
        go_ret
        refine ⟨?_, B1.out⟩
        rw [firstIdx_at p l k _ HK.out hp HE.out]
        rfl
      · rw [Bool.not_eq_true] at hp
        go_wp2
        go_roundw
        case rel =>
          refine ⟨k + 1, by omega, by go_num, B1.out, Lib.hid (fun i y hi hy => ?_)⟩
          by_cases e : i = k
          · subst e
            rw [HK.out] at hy
            cases hy
            exact hp
          · exact HE.out i y (by omega) hy
        case measure => simp [intOf]; omega
    · obtain rfl : k = n := by omega
      go_wp2
      go_ret
      refine ⟨?_, hB⟩
      rw [firstIdx_none p l (fun x hx => ?_)]
      · rfl
      · obtain ⟨i, hi, rfl⟩ := List.getElem_of_mem hx
        exact HE.out i _ (by rw [Hn.out]; exact hi) (List.getElem?_eq_getElem hi)

set_option maxHeartbeats 400000 in
theorem containsFunc_strs (v : Value) (l : List (ByteArray)) (B : Nat) (w : World) (f : FuncId) (x y : Array Value) (p : ByteArray → Bool) (hB0 : B ≤ w.heap.size) (h : strsE.rd w B [v] l)
    (hcf : ∀ args w1, (callFunc f args).run Tryz.prog w1 = .ok (.enter f args) w1)
    (hf : ∀ vk z w1, Below w.heap.size w w1 → strE.rd w1 B [vk] z → Calls Tryz.prog f (x.push vk ++ y) w1 (Gives (.bool (p z)) w1)) :
    Calls Tryz.prog 27 #[v, .func (.func f) x y] w (Gives (.bool (l.any p)) w) := by
  obtain ⟨a, n, cap, rfl⟩ := rd_slice h
  have Hf := Lib.hid hf; clear hf
  have H := Lib.hid h; clear h
  have Hcf := Lib.hid hcf; clear hcf
  go_enter Tryz.func27, Tryz.ntmps27
  go_wp2_with fail
  refine (indexFunc_strs _ l B _ f x y p hB0 H.out Hcf.out Hf.out).mono ?_
  rintro e w1 ⟨rfl, hbl⟩
  have he := Lib.hid (firstIdx_any p l)
  generalize firstIdx p l = j at *
  go_wp2
  go_ret
  exact ⟨by rw [← he.out]; rfl, hbl⟩

end Go.Proofs.YtfamhnogpcmbmaaGreatDoor

/-
  Contracts of the laws' own helpers at one slice type (written by a program of this claim's own, gen_leaf.py).
-/
namespace Go.Proofs.YtfamhnogpcmbmaaGreatDoor
open Go.RowKit

set_option maxHeartbeats 400000 in
theorem eqMoveSS_any (va vb : Value) (la lb : List (List Move)) (B B' : Nat) (w : World) (hB1 : B ≤ w.heap.size) (hB2 : B' ≤ w.heap.size) (ha : movessE.rd w B [va] la) (hb : movessE.rd w B' [vb] lb) :
    Calls Tryz.prog 65 #[va, vb] w (Gives (.bool (decide (la = lb))) w) := by
  obtain ⟨a, ca, rfl, a1, a2, -, a4⟩ := rd_slice1 rfl ha
  obtain ⟨b, cb, rfl, b1, b2, -, b4⟩ := rd_slice1 rfl hb
  clear ha hb
  have H4 := Lib.hid a4; clear a4
  have K4 := Lib.hid b4; clear b4
  by_cases hlen : la.length = lb.length
  · obtain ⟨n, hn⟩ : ∃ n, n = la.length := ⟨_, rfl⟩
    rw [← hn] at hlen H4 a1 ⊢
    rw [← hlen] at K4 b1 ⊢
    have Hn := Lib.hid hn; clear hn
    have Hl := Lib.hid hlen; clear hlen
    go_enter Tryz.func65, Tryz.ntmps65
    go_wp2
    go_loopw [5] (fun i wr => ∃ k : Nat, k ≤ n ∧ i = .int .i64 k ∧ Below w.heap.size w wr ∧ Hid (∀ i, i < k → la[i]?.getD [] = lb[i]?.getD [])) (fun i _ => n - (intOf i).toNat)
    case atStart => exact ⟨0, by omega, rfl, Below.refl _ _, Lib.hid (fun i hi => absurd hi (by omega))⟩
    case round =>
      obtain ⟨k, hk, rfl, hB, HE⟩ := hrel
      by_cases hlt : k < n
      · obtain ⟨p, o, v1, rfl, -, hc, hr1⟩ := H4.out k hlt
        obtain ⟨p', o', v2, rfl, -, hc', hr2⟩ := K4.out k hlt
        have g1 := World.block_lt_of_cell? w _ hc
        have g2 := World.block_lt_of_cell? w _ hc'
        have c1 := (hB.cell g1).trans hc
        have c2 := (hB.cell g2).trans hc'
        have g1 : p < wr.heap.size := Nat.lt_of_lt_of_le g1 hB.size
        have g2 : p' < wr.heap.size := Nat.lt_of_lt_of_le g2 hB.size
        have hov := cell_over wr
        have r1 := movesE.rd_of (hB.mono hB1) hr1
        have r2 := movesE.rd_of (hB.mono hB2) hr2
        have q1 : B ≤ wr.heap.size := Nat.le_trans hB1 hB.size
        have q2 : B' ≤ wr.heap.size := Nat.le_trans hB2 hB.size
        have R1 := Lib.hid r1; clear r1 hr1
        have R2 := Lib.hid r2; clear r2 hr2
        clear hc hc'
        by_cases he : la[k]?.getD [] = lb[k]?.getD []
        · have He := Lib.hid he; clear he
          go_wp2
          refine wp_region_over (by kernel_rfl) (by kernel_rfl) ?_
          repeat (go_big_quiet_step ((go_at_call 95; exact calls_over (eqMoveS_is true _ _ _ _ _ _ _ (decide_eq_true He.out) (movesE.rd_of ((below_over wr _).mono q1) R1.out) (movesE.rd_of ((below_over wr _).mono q2) R2.out)))))
          refine wpQuiet_nil ?_
          intro w1 hw1
          go_wp2
          go_roundw
          case rel => exact ⟨k + 1, by omega, by go_num, hB.trans (hw1.mono hB.size), Lib.hid (fun i hi => by by_cases h : i = k; (subst h; exact He.out); exact HE.out i (by omega))⟩
          case measure => simp [intOf]; omega
        · have He := Lib.hid he; clear he
          go_wp2
          refine wp_region_over (by kernel_rfl) (by kernel_rfl) ?_
          repeat (go_big_quiet_step ((go_at_call 95; exact calls_over (eqMoveS_is false _ _ _ _ _ _ _ (decide_eq_false He.out) (movesE.rd_of ((below_over wr _).mono q1) R1.out) (movesE.rd_of ((below_over wr _).mono q2) R2.out)))))
          refine wpQuiet_nil ?_
          intro w1 hw1
          go_wp2
          go_ret
          have : la ≠ lb := fun e => He.out (by rw [e])
          exact ⟨by simp [this], hB.trans (hw1.mono hB.size)⟩
      · obtain rfl : k = n := by omega
        go_wp2
        go_ret
        have : la = lb := ext_getD [] (by rw [← Hn.out, Hl.out]) (fun i hi => HE.out i (by rw [Hn.out]; exact hi))
        exact ⟨by simp [this], hB⟩
  · have hb := bne_len hlen
    have : la ≠ lb := fun e => hlen (by rw [e])
    have Ht := Lib.hid this; clear this
    go_enter Tryz.func65, Tryz.ntmps65
    go_wp2
    go_ret
    exact ⟨by simp [Ht.out], Below.refl _ _⟩

theorem eqMoveSS_is (r : Bool) (va vb : Value) (la lb : List (List Move)) (B B' : Nat) (w : World) (hB1 : B ≤ w.heap.size) (hB2 : B' ≤ w.heap.size) (hr : decide (la = lb) = r) (ha : movessE.rd w B [va] la) (hb : movessE.rd w B' [vb] lb) :
    Calls Tryz.prog 65 #[va, vb] w (Gives (.bool r) w) := hr ▸ eqMoveSS_any va vb la lb B B' w hB1 hB2 ha hb

theorem info_MoveSS : (Tryz.prog.info? 60).map (fun i => (i.zero, i.size, i.bytes)) = some (some (.slice none 0 0), 1, 24) := by kernel_rfl

end Go.Proofs.YtfamhnogpcmbmaaGreatDoor

/-
  The contracts of the laws' own toTurner and szTurner (written by a program of this claim's own, gen_structs.py).
-/
namespace Go.Proofs.YtfamhnogpcmbmaaGreatDoor
open Go.RowKit

/-- No list of it is longer than the laws let by. -/
def okTurner (r : Turner) : Prop := r.moves.length ≤ 1048576 ∧ (∀ x, x ∈ r.moves → x.length ≤ 1048576)

/-- How much of it the laws count. -/
def totTurner (r : Turner) : Nat := (r.moves.length + sumLen r.moves)

theorem ok_of_totTurner {r : Turner} (h : ¬ 1048576 < totTurner r) : okTurner r := by
  unfold totTurner at h
  exact ⟨by omega, fun x hx => by have := sumLen_mem _ _ hx; omega⟩

end Go.Proofs.YtfamhnogpcmbmaaGreatDoor

/-
  Contracts of the laws' own helpers at one slice type (written by a program of this claim's own, gen_leaf.py).
-/
namespace Go.Proofs.YtfamhnogpcmbmaaGreatDoor
open Go.RowKit

def sumF {α : Type} (f : α → Nat) (l : List α) : Nat := (l.map f).sum
theorem sumF_take {α : Type} (f : α → Nat) (l : List α) (k : Nat) (x : α) (h : l[k]? = some x) : sumF f (l.take (k + 1)) = sumF f (l.take k) + f x := by
  obtain ⟨hk, rfl⟩ := List.getElem?_eq_some_iff.1 h
  rw [List.take_succ_eq_append_getElem hk]
  unfold sumF
  rw [List.map_append, List.sum_append, List.map_cons, List.map_nil, List.sum_cons, List.sum_nil, Nat.add_zero]
theorem sumF_le {α : Type} (f : α → Nat) (l : List α) (k : Nat) : sumF f (l.take k) ≤ sumF f l := by
  conv => rhs; rw [← List.take_append_drop k l]
  simp only [sumF, List.map_append, List.sum_append]
  omega
theorem strs_ne {x y : ByteArray} (h : ¬ x = y) : (x.toList == y.toList) = false := by
  rw [beq_eq_false_iff_ne]
  intro e
  apply h
  rw [ByteArray.toList_eq, ByteArray.toList_eq] at e
  obtain ⟨a⟩ := x
  obtain ⟨b⟩ := y
  have : a = b := Array.toList_inj.1 e
  rw [this]
def strSz (l : List ByteArray) : Nat := l.length + sumF ByteArray.size l
def strsSz (l : List (List ByteArray)) : Nat := l.length + sumF strSz l

theorem info_StringS : (Tryz.prog.info? 9).map (fun i => (i.zero, i.size, i.bytes)) = some (some (.string ByteArray.empty), 1, 16) := by kernel_rfl

set_option maxHeartbeats 400000 in
theorem eqStringS_any (va vb : Value) (la lb : List ByteArray) (B B' : Nat) (w : World) (ha : strsE.rd w B [va] la) (hb : strsE.rd w B' [vb] lb) :
    Calls Tryz.prog 66 #[va, vb] w (Gives (.bool (decide (la = lb))) w) := by
  obtain ⟨a, ca, rfl, a1, a2, _, a4⟩ := rd_strs ha
  obtain ⟨b, cb, rfl, b1, b2, _, b4⟩ := rd_strs hb
  clear ha hb
  have H4 := Lib.hid a4; clear a4
  have K4 := Lib.hid b4; clear b4
  by_cases hlen : la.length = lb.length
  · obtain ⟨n, hn⟩ : ∃ n, n = la.length := ⟨_, rfl⟩
    rw [← hn] at hlen H4 a1 ⊢
    rw [← hlen] at K4 b1 ⊢
    have Hn := Lib.hid hn; clear hn
    have Hl := Lib.hid hlen; clear hlen
    go_enter Tryz.func66, Tryz.ntmps66
    go_wp2
    go_loopw [5] (fun i wr => ∃ k : Nat, k ≤ n ∧ i = .int .i64 k ∧ Below w.heap.size w wr ∧ Hid (∀ i, i < k → la[i]?.getD ByteArray.empty = lb[i]?.getD ByteArray.empty)) (fun i _ => n - (intOf i).toNat)
    case atStart => exact ⟨0, by omega, rfl, Below.refl _ _, Lib.hid (fun i hi => absurd hi (by omega))⟩
    case round =>
      obtain ⟨k, hk, rfl, hB, HE⟩ := hrel
      by_cases hlt : k < n
      · obtain ⟨p, o, rfl, _, hc, -⟩ := H4.out k hlt
        obtain ⟨p', o', rfl, _, hc', -⟩ := K4.out k hlt
        have c1 := (hB.cell (World.block_lt_of_cell? w _ hc)).trans hc
        have c2 := (hB.cell (World.block_lt_of_cell? w _ hc')).trans hc'
        clear hc hc'
        generalize hx : la[k]?.getD ByteArray.empty = x at *
        generalize hy : lb[k]?.getD ByteArray.empty = y at *
        have HX := Lib.hid hx; have HY := Lib.hid hy; clear hx hy
        by_cases he : x = y
        · have heb : (x.toList == y.toList) = true := by rw [he]; simp
          have He := Lib.hid he; clear he
          go_wp2
          go_quiet (fail)
          go_wp2
          go_roundw
          case rel => exact ⟨k + 1, by omega, by go_num, below_drewN hB _, Lib.hid (fun i hi => by by_cases h : i = k; (subst h; rw [HX.out, HY.out]; exact He.out); exact HE.out i (by omega))⟩
          case measure => simp [intOf]; omega
        · have heb : (x.toList == y.toList) = false := strs_ne he
          have He := Lib.hid he; clear he
          go_wp2
          go_quiet (fail)
          go_wp2
          go_ret
          have : la ≠ lb := fun e => He.out (by rw [← HX.out, ← HY.out, e])
          exact ⟨by simp [this], below_drewN hB _⟩
      · obtain rfl : k = n := by omega
        go_wp2
        go_ret
        have : la = lb := ext_getD ByteArray.empty (by rw [← Hn.out, Hl.out]) (fun i hi => HE.out i (by rw [Hn.out]; exact hi))
        exact ⟨by simp [this], hB⟩
  · have hb := bne_len hlen
    have : la ≠ lb := fun e => hlen (by rw [e])
    have Ht := Lib.hid this; clear this
    go_enter Tryz.func66, Tryz.ntmps66
    go_wp2
    go_ret
    exact ⟨by simp [Ht.out], Below.refl _ _⟩

theorem eqStringS_is (r : Bool) (va vb : Value) (la lb : List ByteArray) (B B' : Nat) (w : World) (hr : decide (la = lb) = r) (ha : strsE.rd w B [va] la) (hb : strsE.rd w B' [vb] lb) :
    Calls Tryz.prog 66 #[va, vb] w (Gives (.bool r) w) := hr ▸ eqStringS_any va vb la lb B B' w ha hb

end Go.Proofs.YtfamhnogpcmbmaaGreatDoor

/-
  Contracts of the laws' own helpers at one slice type (written by a program of this claim's own, gen_leaf.py).
-/
namespace Go.Proofs.YtfamhnogpcmbmaaGreatDoor
open Go.RowKit

set_option maxHeartbeats 400000 in
theorem eqStringSS_any (va vb : Value) (la lb : List (List ByteArray)) (B B' : Nat) (w : World) (hB1 : B ≤ w.heap.size) (hB2 : B' ≤ w.heap.size) (ha : strssE.rd w B [va] la) (hb : strssE.rd w B' [vb] lb) :
    Calls Tryz.prog 34 #[va, vb] w (Gives (.bool (decide (la = lb))) w) := by
  obtain ⟨a, ca, rfl, a1, a2, -, a4⟩ := rd_slice1 rfl ha
  obtain ⟨b, cb, rfl, b1, b2, -, b4⟩ := rd_slice1 rfl hb
  clear ha hb
  have H4 := Lib.hid a4; clear a4
  have K4 := Lib.hid b4; clear b4
  by_cases hlen : la.length = lb.length
  · obtain ⟨n, hn⟩ : ∃ n, n = la.length := ⟨_, rfl⟩
    rw [← hn] at hlen H4 a1 ⊢
    rw [← hlen] at K4 b1 ⊢
    have Hn := Lib.hid hn; clear hn
    have Hl := Lib.hid hlen; clear hlen
    go_enter Tryz.func34, Tryz.ntmps34
    go_wp2
    go_loopw [5] (fun i wr => ∃ k : Nat, k ≤ n ∧ i = .int .i64 k ∧ Below w.heap.size w wr ∧ Hid (∀ i, i < k → la[i]?.getD [] = lb[i]?.getD [])) (fun i _ => n - (intOf i).toNat)
    case atStart => exact ⟨0, by omega, rfl, Below.refl _ _, Lib.hid (fun i hi => absurd hi (by omega))⟩
    case round =>
      obtain ⟨k, hk, rfl, hB, HE⟩ := hrel
      by_cases hlt : k < n
      · obtain ⟨p, o, v1, rfl, -, hc, hr1⟩ := H4.out k hlt
        obtain ⟨p', o', v2, rfl, -, hc', hr2⟩ := K4.out k hlt
        have g1 := World.block_lt_of_cell? w _ hc
        have g2 := World.block_lt_of_cell? w _ hc'
        have c1 := (hB.cell g1).trans hc
        have c2 := (hB.cell g2).trans hc'
        have g1 : p < wr.heap.size := Nat.lt_of_lt_of_le g1 hB.size
        have g2 : p' < wr.heap.size := Nat.lt_of_lt_of_le g2 hB.size
        have hov := cell_over wr
        have r1 := strsE.rd_of (hB.mono hB1) hr1
        have r2 := strsE.rd_of (hB.mono hB2) hr2
        have q1 : B ≤ wr.heap.size := Nat.le_trans hB1 hB.size
        have q2 : B' ≤ wr.heap.size := Nat.le_trans hB2 hB.size
        have R1 := Lib.hid r1; clear r1 hr1
        have R2 := Lib.hid r2; clear r2 hr2
        clear hc hc'
        by_cases he : la[k]?.getD [] = lb[k]?.getD []
        · have He := Lib.hid he; clear he
          go_wp2
          refine wp_region_over (by kernel_rfl) (by kernel_rfl) ?_
          repeat (go_big_quiet_step ((go_at_call 66; exact calls_over (eqStringS_is true _ _ _ _ _ _ _ (decide_eq_true He.out) (strsE.rd_of ((below_over wr _).mono q1) R1.out) (strsE.rd_of ((below_over wr _).mono q2) R2.out)))))
          refine wpQuiet_nil ?_
          intro w1 hw1
          go_wp2
          go_roundw
          case rel => exact ⟨k + 1, by omega, by go_num, hB.trans (hw1.mono hB.size), Lib.hid (fun i hi => by by_cases h : i = k; (subst h; exact He.out); exact HE.out i (by omega))⟩
          case measure => simp [intOf]; omega
        · have He := Lib.hid he; clear he
          go_wp2
          refine wp_region_over (by kernel_rfl) (by kernel_rfl) ?_
          repeat (go_big_quiet_step ((go_at_call 66; exact calls_over (eqStringS_is false _ _ _ _ _ _ _ (decide_eq_false He.out) (strsE.rd_of ((below_over wr _).mono q1) R1.out) (strsE.rd_of ((below_over wr _).mono q2) R2.out)))))
          refine wpQuiet_nil ?_
          intro w1 hw1
          go_wp2
          go_ret
          have : la ≠ lb := fun e => He.out (by rw [e])
          exact ⟨by simp [this], hB.trans (hw1.mono hB.size)⟩
      · obtain rfl : k = n := by omega
        go_wp2
        go_ret
        have : la = lb := ext_getD [] (by rw [← Hn.out, Hl.out]) (fun i hi => HE.out i (by rw [Hn.out]; exact hi))
        exact ⟨by simp [this], hB⟩
  · have hb := bne_len hlen
    have : la ≠ lb := fun e => hlen (by rw [e])
    have Ht := Lib.hid this; clear this
    go_enter Tryz.func34, Tryz.ntmps34
    go_wp2
    go_ret
    exact ⟨by simp [Ht.out], Below.refl _ _⟩

theorem eqStringSS_is (r : Bool) (va vb : Value) (la lb : List (List ByteArray)) (B B' : Nat) (w : World) (hB1 : B ≤ w.heap.size) (hB2 : B' ≤ w.heap.size) (hr : decide (la = lb) = r) (ha : strssE.rd w B [va] la) (hb : strssE.rd w B' [vb] lb) :
    Calls Tryz.prog 34 #[va, vb] w (Gives (.bool r) w) := hr ▸ eqStringSS_any va vb la lb B B' w hB1 hB2 ha hb

theorem info_StringSS : (Tryz.prog.info? 50).map (fun i => (i.zero, i.size, i.bytes)) = some (some (.slice none 0 0), 1, 24) := by kernel_rfl

end Go.Proofs.YtfamhnogpcmbmaaGreatDoor

/-
  Contracts of the laws' own szWriter and toWriter (written by a program of this claim's own, gen_writ.py).
-/
namespace Go.Proofs.YtfamhnogpcmbmaaGreatDoor
open Go.RowKit

def okWriter (r : Writer) : Prop := okTurner r.turner ∧ r.out.length ≤ 1048576 ∧ ∀ x, x ∈ r.out → x.length ≤ 1048576
def totWriter (r : Writer) : Nat := totTurner r.turner + (r.out.length + sumF strSz r.out)

theorem rd_WriterF {w : World} {B : Nat} {cs : List Value} {r : Writer} (h : writE.rd w B cs r) :
    ∃ v2 v3, cs = [.int .i64 r.turner.letters, .int .i64 r.turner.start, v2, v3] ∧ (-9223372036854775808 ≤ r.turner.letters ∧ r.turner.letters ≤ 9223372036854775807) ∧ (-9223372036854775808 ≤ r.turner.start ∧ r.turner.start ≤ 9223372036854775807) ∧ movessE.rd w B [v2] r.turner.moves ∧ strssE.rd w B [v3] r.out := by
  obtain ⟨v2, v3, rfl, h2, h3⟩ := rd_Writer h
  obtain ⟨v2', he, b0, b1, k2⟩ := rd_Turner h2
  obtain rfl : v2 = v2' := by simpa using he
  exact ⟨v2, v3, rfl, b0, b1, k2, h3⟩

theorem sumF_mem {α : Type} (f : α → Nat) (l : List α) (x : α) (h : x ∈ l) : f x ≤ sumF f l := by
  induction l with
  | nil => cases h
  | cons a l ih =>
    show f x ≤ f a + sumF f l
    rcases List.mem_cons.1 h with e | e
    · subst e; omega
    · have := ih e; omega

theorem ok_of_totWriter {r : Writer} (h : ¬ 1048576 < totWriter r) : okWriter r := by
  unfold totWriter at h
  refine ⟨ok_of_totTurner (by omega), by omega, fun x hx => ?_⟩
  have := sumF_mem strSz r.out x hx
  have h2 : x.length ≤ strSz x := by unfold strSz; omega
  omega

end Go.Proofs.YtfamhnogpcmbmaaGreatDoor

/-
  ValidWriter of the program: what it answers.
-/
namespace Go.Proofs.YtfamhnogpcmbmaaGreatDoor
open Go.RowKit

def orowOk (row : List ByteArray) (n : Nat) : Bool := decide (row.length = n) && row.all outOk
def writerOk (r : Writer) : Bool := validTurn r.turner && (decide (r.out.length = r.turner.moves.length) && (List.range r.turner.moves.length).all fun s => orowOk (r.out[s]?.getD default) (r.turner.moves[s]?.getD default).length)

theorem validTurn_is (b : Bool) (cs : List Value) (p : Turner) (B : Nat) (w : World) (hB0 : B ≤ w.heap.size) (h : turnE.rd w B cs p) (hb : validTurn p = b) :
    Calls Tryz.prog 26 #[.agg cs.toArray] w (Gives (.bool b) w) := hb ▸ validTurn_any cs p B w hB0 h

set_option maxRecDepth 100000 in
theorem containsOut_is (b : Bool) (v : Value) (l : List ByteArray) (B : Nat) (w : World) (hB0 : B ≤ w.heap.size) (h : strsE.rd w B [v] l) (hb : (l.any fun t => !outOk t) = b) :
    Calls Tryz.prog 27 #[v, .func (.func 28) #[] #[]] w (Gives (.bool b) w) := by
  subst hb
  refine containsFunc_strs v l B w _ #[] #[] _ hB0 h ?_ ?_
  · intro args w1
    rfl
  · intro vk z w1 _ hz
    obtain ⟨hv, hs⟩ := hz
    obtain rfl : vk = .string z := by simpa using hv
    exact notOut_any z w1 hs

theorem any_out (l : List ByteArray) : (l.any fun t => !outOk t) = !l.all outOk := by
  induction l with
  | nil => rfl
  | cons a l ih => rw [List.any_cons, List.all_cons, ih]; cases outOk a <;> rfl

set_option maxHeartbeats 2000000 in
theorem validWriter_any (cs : List Value) (r : Writer) (B : Nat) (w : World) (hB0 : B ≤ w.heap.size) (h : writE.rd w B cs r) :
    Calls Tryz.prog 11 #[.agg cs.toArray] w (Gives (.bool (writerOk r)) w) := by
  obtain ⟨v2, v3, rfl, h2, h3⟩ := rd_Writer h
  obtain ⟨v2', he, -, -, k2⟩ := rd_Turner h2
  obtain rfl : v2 = v2' := by simpa using he
  obtain ⟨a, cap, rfl, a1, a2, -, a4⟩ := rd_slice1 rfl k2
  obtain ⟨b, bcap, rfl, b1, b2, -, b4⟩ := rd_slice1 rfl h3
  have H2 := Lib.hid h2
  clear h he k2 h3 h2
  have A4 := Lib.hid a4; clear a4
  have B4 := Lib.hid b4; clear b4
  cases hv : validTurn r.turner
  · have HV := Lib.hid hv; clear hv
    have hno : writerOk r = false := by unfold writerOk; rw [HV.out]; rfl
    rw [hno]
    go_enter Tryz.func11, Tryz.ntmps11
    go_wp2_with fail
    generalize hW : w.alloc _ = w0
    obtain ⟨A0, hB⟩ := blk1 hW
    clear hW
    refine (validTurn_is false _ r.turner B _ (Nat.le_trans hB0 hB.size) (turnE.rd_of (hB.mono hB0) H2.out) HV.out).mono ?_
    rintro e w1 ⟨rfl, b9⟩
    go_wp2
    go_ret
    exact ⟨rfl, hB.trans (b9.mono hB.size)⟩
  have HV := Lib.hid hv; clear hv
  obtain ⟨n, hn⟩ : ∃ n, n = r.turner.moves.length := ⟨_, rfl⟩
  obtain ⟨m, hm⟩ : ∃ n, n = r.out.length := ⟨_, rfl⟩
  rw [← hn] at A4 H2 a1 ⊢
  rw [← hm] at B4 b1 ⊢
  have HN := Lib.hid hn; clear hn
  have HM := Lib.hid hm; clear hm
  have HR : Hid (writerOk r = (decide (m = n) && (List.range n).all fun s => orowOk (r.out[s]?.getD default) (r.turner.moves[s]?.getD default).length)) := Lib.hid (by unfold writerOk; rw [HV.out, HN.out, HM.out]; rfl)
  obtain ⟨res, hres⟩ : ∃ x, x = writerOk r := ⟨_, rfl⟩
  rw [← hres]
  have HRES := Lib.hid (hres.trans HR.out); clear hres HR
  by_cases hmn : m = n
  case neg =>
    have hno : res = false := by rw [HRES.out, decide_eq_false hmn]; rfl
    have hb1 : ((m : Int) != (n : Int)) = true := by simp; omega
    rw [hno]
    go_enter Tryz.func11, Tryz.ntmps11
    go_wp2_with fail
    generalize hW : w.alloc _ = w0
    obtain ⟨A0, hB⟩ := blk1 hW
    clear hW
    refine (validTurn_is true _ r.turner B _ (Nat.le_trans hB0 hB.size) (turnE.rd_of (hB.mono hB0) H2.out) HV.out).mono ?_
    rintro e w1 ⟨rfl, b9⟩
    have A0 := A0.of b9 A0.lt
    have c2 := A0.cell 2 rfl
    have c3 := A0.cell 3 rfl
    go_wp2
    go_ret
    exact ⟨rfl, hB.trans (b9.mono hB.size)⟩
  subst hmn
  have hres : Hid (res = (List.range m).all fun s => orowOk (r.out[s]?.getD default) (r.turner.moves[s]?.getD default).length) := Lib.hid (by rw [HRES.out, decide_eq_true rfl, Bool.true_and])
  clear HRES
  have hb1 : ((m : Int) != (m : Int)) = false := by simp
  go_enter Tryz.func11, Tryz.ntmps11
  go_wp2_with fail
  generalize hW : w.alloc _ = w0
  obtain ⟨A0, hB⟩ := blk1 hW
  clear hW
  refine (validTurn_is true _ r.turner B _ (Nat.le_trans hB0 hB.size) (turnE.rd_of (hB.mono hB0) H2.out) HV.out).mono ?_
  rintro e w1 ⟨rfl, b9⟩
  have HB := Lib.hid (hB.trans (b9.mono hB.size))
  have HA := Lib.hid (A0.of b9 A0.lt)
  clear A0 b9 hB
  have c2 := HA.out.cell 2 rfl
  have c3 := HA.out.cell 3 rfl
  go_wp2
  clear c2 c3
  go_loopw [22] (fun i wr => ∃ k : Nat, k ≤ m ∧ i = .int .i64 k ∧ Below w.heap.size w wr ∧ Blk wr w.heap.size [.int .i64 r.turner.letters, .int .i64 r.turner.start, .slice a m cap, .slice b m bcap] 29 ∧ Hid (∀ i, i < k → orowOk (r.out[i]?.getD default) (r.turner.moves[i]?.getD default).length = true)) (fun i _ => m - (intOf i).toNat)
  case atStart => exact ⟨0, by omega, rfl, HB.out, HA.out, Lib.hid (fun i hi => absurd hi (by omega))⟩
  case round =>
    obtain ⟨k, hk, rfl, hB, hA, HE⟩ := hrel
    by_cases hlt : k < m
    case neg =>
      obtain rfl : k = m := by omega
      have hyes : res = true := by rw [hres.out]; exact range_all (fun i hi => HE.out i hi)
      go_wp2
      go_ret
      exact ⟨by rw [hyes]; rfl, hB⟩
    obtain ⟨p, o, vk, rfl, -, hc, hr⟩ := A4.out k hlt
    obtain ⟨p2, o2, vk2, rfl, -, hc2, hr2⟩ := B4.out k hlt
    have g1 := (hB.cell (World.block_lt_of_cell? w _ hc)).trans hc
    have g2 := (hB.cell (World.block_lt_of_cell? w _ hc2)).trans hc2
    have R2 := Lib.hid (strsE.rd_of (hB.mono hB0) hr2)
    obtain ⟨sa, sc, rfl, s1, s2, -, -⟩ := rd_movesE hr
    obtain ⟨ta, tc, rfl, t1, t2, -, -⟩ := rd_strs hr2
    clear hc hc2 hr hr2
    obtain ⟨x, hx⟩ : ∃ x, x = (r.turner.moves[k]?.getD default).length := ⟨_, rfl⟩
    obtain ⟨row, hrow⟩ : ∃ x, x = r.out[k]?.getD default := ⟨_, rfl⟩
    rw [← hx] at g1 s1
    rw [← hrow] at R2 g2 t1
    have HX := Lib.hid hx; clear hx
    have HROW := Lib.hid hrow; clear hrow
    have c2 := hA.cell 2 rfl
    have HA' := Lib.hid hA; have la := hA.lt; clear hA
    have HBr := Lib.hid hB; clear hB
    obtain ⟨y, hy⟩ : ∃ x, x = row.length := ⟨_, rfl⟩
    rw [← hy] at R2 g2 t1
    have HY := Lib.hid hy; clear hy
    by_cases hlen : y = x
    case neg =>
      have hb2 : ((y : Int) != (x : Int)) = true := by simp; omega
      have hno : Hid (res = false) := Lib.hid (by rw [hres.out]; exact range_not hlt (by unfold orowOk; rw [← HROW.out, ← HX.out, decide_eq_false (by rw [← HY.out]; exact hlen)]; rfl))
      clear hlen
      go_wp2
      go_ret
      exact ⟨by rw [hno.out]; rfl, HBr.out⟩
    subst hlen
    have hb2 : ((y : Int) != (y : Int)) = false := by simp
    cases hok : row.all outOk
    · have HOK : Hid ((row.any fun t => !outOk t) = true) := Lib.hid (by rw [any_out, hok]; rfl)
      have hno : Hid (res = false) := Lib.hid (by rw [hres.out]; exact range_not hlt (by unfold orowOk; rw [← HROW.out, hok, Bool.and_false]))
      clear hok
      go_wp2_with fail
      refine (containsOut_is true _ row B _ (Nat.le_trans hB0 HBr.out.size) R2.out HOK.out).mono ?_
      rintro e w5 ⟨rfl, b5⟩
      go_wp2
      go_ret
      exact ⟨by rw [hno.out]; rfl, HBr.out.trans (b5.mono HBr.out.size)⟩
    · have HOK : Hid ((row.any fun t => !outOk t) = false) := Lib.hid (by rw [any_out, hok]; rfl)
      have hyes : Hid (orowOk (r.out[k]?.getD default) (r.turner.moves[k]?.getD default).length = true) := Lib.hid (by unfold orowOk; rw [← HROW.out, ← HX.out, hok, decide_eq_true HY.out.symm]; rfl)
      clear hok
      go_wp2_with fail
      refine (containsOut_is false _ row B _ (Nat.le_trans hB0 HBr.out.size) R2.out HOK.out).mono ?_
      rintro e w5 ⟨rfl, b5⟩
      go_wp2
      go_roundw
      case rel => exact ⟨k + 1, by omega, by go_num, HBr.out.trans (b5.mono HBr.out.size), HA'.out.of b5 la, Lib.hid (fun i hi => by by_cases h : i = k; (subst h; exact hyes.out); exact HE.out i (by omega))⟩
      case measure => simp [intOf]; omega

end Go.Proofs.YtfamhnogpcmbmaaGreatDoor
