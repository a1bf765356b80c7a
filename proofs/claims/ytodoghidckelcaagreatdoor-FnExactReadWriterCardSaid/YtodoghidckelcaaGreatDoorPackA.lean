/-
  What this claim leans on: values in cells, contracts of functions (11 texts of this claim's own, laid together).
-/
import Derived.WalkKit
import Derived.ProofKit
import Derived.Deep.Slices
import Derived.Deep.QuietTactic
import Derived.BigQuiet
import Derived.Deep.RegionWith
import Derived.Lib.Hide
import Derived.WalkSmall
import Derived.StillTailTactics
import Derived.Deep.RegionHeld3
import Derived.WalkSpells
import Derived.WalkLawsBesides
import Derived.Test.YtodoghidckelcaaGreatDoorRows
import Derived.Laws.AppendOwn
import Derived.Deep.AppendSrc
/-
  Plain definitions and lemmas: how lists, structs, numbers and strings lie in Go memory ('rd': they can be read; 'ow': they lie in blocks of their own). No program is named here.
-/
namespace Go.Proofs.YtodoghidckelcaaGreatDoor
open Go.RowKit

/-- How values of a Lean type lie in cells. 'rd w B cs a': the cells 'cs' stand for 'a', all memory that they lead to lies in blocks below B. 'ow w cs a fp': they stand for 'a' and lead to the blocks 'fp', each of which is a row of its own. -/
structure Enc (α : Type) where
  size : Nat
  rd : World → Nat → List Value → α → Prop
  ow : World → List Value → α → List Nat → Prop
  rd_len : ∀ {w B cs a}, rd w B cs a → cs.length = size
  rd_below : ∀ {w w' : World} {B cs a}, (∀ p : Addr, p.block < B → w'.cell? p = w.cell? p) → rd w B cs a → rd w' B cs a
  rd_mono : ∀ {w B B' cs a}, B ≤ B' → rd w B cs a → rd w B' cs a
  ow_rd : ∀ {w cs a fp B}, (∀ b, b ∈ fp → b < B) → ow w cs a fp → rd w B cs a
  ow_lt : ∀ {w cs a fp}, ow w cs a fp → ∀ b, b ∈ fp → b < w.heap.size
  ow_frame : ∀ {w w' : World} {cs a fp}, (∀ b, b ∈ fp → w'.heap[b]? = w.heap[b]?) → ow w cs a fp → ow w' cs a fp

/-- A type of one cell whose values are written out. -/
def cellE {α : Type} (f : α → Value) : Enc α where
  size := 1
  rd _ _ cs a := cs = [f a]
  ow _ cs a fp := cs = [f a] ∧ fp = []
  rd_len h := by rw [h]; rfl
  rd_below _ h := h
  rd_mono _ h := h
  ow_rd _ h := h.1
  ow_lt h b hb := by rw [h.2] at hb; cases hb
  ow_frame _ h := h

def intE : Enc Int where
  size := 1
  rd _ _ cs a := cs = [.int .i64 a] ∧ -9223372036854775808 ≤ a ∧ a ≤ 9223372036854775807
  ow _ cs a fp := (cs = [.int .i64 a] ∧ -9223372036854775808 ≤ a ∧ a ≤ 9223372036854775807) ∧ fp = []
  rd_len h := by rw [h.1]; rfl
  rd_below _ h := h
  rd_mono _ h := h
  ow_rd _ h := h.1
  ow_lt h b hb := by rw [h.2] at hb; cases hb
  ow_frame _ h := h

def boolE : Enc Bool := cellE .bool

def strE : Enc ByteArray where
  size := 1
  rd _ _ cs a := cs = [.string a] ∧ a.size ≤ maxLen
  ow _ cs a fp := (cs = [.string a] ∧ a.size ≤ maxLen) ∧ fp = []
  rd_len h := by rw [h.1]; rfl
  rd_below _ h := h
  rd_mono _ h := h
  ow_rd _ h := h.1
  ow_lt h b hb := by rw [h.2] at hb; cases hb
  ow_frame _ h := h

/-- Two types side by side: a struct. -/
def pairE {α β : Type} (E : Enc α) (F : Enc β) : Enc (α × β) where
  size := E.size + F.size
  rd w B cs a := ∃ c1 c2, cs = c1 ++ c2 ∧ E.rd w B c1 a.1 ∧ F.rd w B c2 a.2
  ow w cs a fp := ∃ c1 c2 f1 f2, cs = c1 ++ c2 ∧ fp = f1 ++ f2 ∧ E.ow w c1 a.1 f1 ∧ F.ow w c2 a.2 f2
  rd_len := by rintro w B cs a ⟨c1, c2, rfl, h1, h2⟩; rw [List.length_append, E.rd_len h1, F.rd_len h2]
  rd_below := by rintro w w' B cs a h ⟨c1, c2, rfl, h1, h2⟩; exact ⟨c1, c2, rfl, E.rd_below h h1, F.rd_below h h2⟩
  rd_mono := by rintro w B B' cs a h ⟨c1, c2, rfl, h1, h2⟩; exact ⟨c1, c2, rfl, E.rd_mono h h1, F.rd_mono h h2⟩
  ow_rd := by
    rintro w cs a fp B hB ⟨c1, c2, f1, f2, rfl, rfl, h1, h2⟩
    exact ⟨c1, c2, rfl, E.ow_rd (fun b hb => hB b (by simp [hb])) h1, F.ow_rd (fun b hb => hB b (by simp [hb])) h2⟩
  ow_lt := by
    rintro w cs a fp ⟨c1, c2, f1, f2, rfl, rfl, h1, h2⟩ b hb
    rcases List.mem_append.1 hb with h | h
    · exact E.ow_lt h1 b h
    · exact F.ow_lt h2 b h
  ow_frame := by
    rintro w w' cs a fp h ⟨c1, c2, f1, f2, rfl, rfl, h1, h2⟩
    exact ⟨c1, c2, f1, f2, rfl, rfl, E.ow_frame (fun b hb => h b (by simp [hb])) h1, F.ow_frame (fun b hb => h b (by simp [hb])) h2⟩

/-- A type seen through a function: a Lean structure as a product. -/
def viaE {α β : Type} (E : Enc β) (f : α → β) : Enc α where
  size := E.size
  rd w B cs a := E.rd w B cs (f a)
  ow w cs a fp := E.ow w cs (f a) fp
  rd_len h := E.rd_len h
  rd_below h := E.rd_below h
  rd_mono h := E.rd_mono h
  ow_rd h := E.ow_rd h
  ow_lt h := E.ow_lt h
  ow_frame h := E.ow_frame h

/-- All elements of a list lie in their cells, each with blocks of its own. -/
inductive OwAll {α : Type} (E : Enc α) (w : World) : List α → List (List Value) → List (List Nat) → Prop
  | nil : OwAll E w [] [] []
  | cons {a l cs xss f fps} : E.ow w cs a f → OwAll E w l xss fps → OwAll E w (a :: l) (cs :: xss) (f :: fps)

theorem OwAll.frame {α : Type} {E : Enc α} {w w' : World} {l : List α} {xss : List (List Value)} {fps : List (List Nat)} (h : OwAll E w l xss fps) (hf : ∀ b, b ∈ fps.flatten → w'.heap[b]? = w.heap[b]?) : OwAll E w' l xss fps := by
  induction h with
  | nil => exact .nil
  | cons h1 h2 ih => exact .cons (E.ow_frame (fun b hb => hf b (by simp [hb])) h1) (ih (fun b hb => hf b (by rw [List.flatten_cons]; exact List.mem_append_right _ hb)))

theorem OwAll.lt {α : Type} {E : Enc α} {w : World} {l : List α} {xss : List (List Value)} {fps : List (List Nat)} (h : OwAll E w l xss fps) : ∀ b, b ∈ fps.flatten → b < w.heap.size := by
  induction h with
  | nil => intro b hb; simp at hb
  | cons h1 h2 ih =>
    intro b hb
    rw [List.flatten_cons] at hb
    rcases List.mem_append.1 hb with h | h
    · exact E.ow_lt h1 b h
    · exact ih b h

theorem OwAll.len {α : Type} {E : Enc α} {w : World} {l : List α} {xss : List (List Value)} {fps : List (List Nat)} (h : OwAll E w l xss fps) : xss.length = l.length ∧ fps.length = l.length := by
  induction h with
  | nil => exact ⟨rfl, rfl⟩
  | cons h1 h2 ih => simp [ih.1, ih.2]

theorem OwAll.append {α : Type} {E : Enc α} {w : World} {l : List α} {xss : List (List Value)} {fps : List (List Nat)} (h : OwAll E w l xss fps) {l' : List α} {xss' : List (List Value)} {fps' : List (List Nat)} (h' : OwAll E w l' xss' fps') :
    OwAll E w (l ++ l') (xss ++ xss') (fps ++ fps') := by
  induction h with
  | nil => exact h'
  | cons h1 h2 ih => exact .cons h1 ih

theorem OwAll.one {α : Type} {E : Enc α} {w : World} {a : α} {cs : List Value} {f : List Nat} (h : E.ow w cs a f) : OwAll E w [a] [cs] [f] := .cons h .nil

theorem OwAll.rdAt {α : Type} {E : Enc α} {w : World} {l : List α} {xss : List (List Value)} {fps : List (List Nat)} {B : Nat} (h : OwAll E w l xss fps) (hB : ∀ b, b ∈ fps.flatten → b < B) :
    ∀ i x, l[i]? = some x → ∃ xs f, xss[i]? = some xs ∧ fps[i]? = some f ∧ E.ow w xs x f ∧ E.rd w B xs x ∧ ∀ j v, xs[j]? = some v → xss.flatten[i * E.size + j]? = some v := by
  induction h with
  | nil => intro i x hx; simp at hx
  | @cons a l cs xss f fps h1 h2 ih =>
    intro i x hx
    have hl : cs.length = E.size := E.rd_len (E.ow_rd (B := B) (fun b hb => hB b (by simp [hb])) h1)
    cases i with
    | zero =>
      simp only [List.getElem?_cons_zero, Option.some.injEq] at hx
      subst hx
      refine ⟨cs, f, rfl, rfl, h1, E.ow_rd (fun b hb => hB b (by simp [hb])) h1, fun j v hv => ?_⟩
      rw [List.flatten_cons, Nat.zero_mul, Nat.zero_add, List.getElem?_append_left]
      · exact hv
      · exact (List.getElem?_eq_some_iff.1 hv).1
    | succ i =>
      simp only [List.getElem?_cons_succ] at hx
      obtain ⟨xs, g, e1, e2, e3, e4, e5⟩ := ih (fun b hb => hB b (by rw [List.flatten_cons]; exact List.mem_append_right _ hb)) i x hx
      refine ⟨xs, g, by simpa using e1, by simpa using e2, e3, e4, fun j v hv => ?_⟩
      rw [List.flatten_cons, List.getElem?_append_right (by rw [hl, Nat.succ_mul]; omega), hl, show (i + 1) * E.size + j - E.size = i * E.size + j from by rw [Nat.succ_mul]; omega]
      exact e5 j v hv

theorem OwAll.flat {α : Type} {E : Enc α} {w : World} {l : List α} {xss : List (List Value)} {fps : List (List Nat)} (h : OwAll E w l xss fps) : xss.flatten.length = l.length * E.size := by
  induction h with
  | nil => simp
  | cons h1 h2 ih =>
    rw [List.flatten_cons, List.length_append, ih, E.rd_len (E.ow_rd (B := w.heap.size) (E.ow_lt h1) h1), List.length_cons, Nat.succ_mul]
    omega

/-- A slice. 'ty': the number of the element's type. -/
def sliceE {α : Type} (E : Enc α) (ty : TypeId) : Enc (List α) where
  size := 1
  rd w B cs l := ∃ a cap, cs = [.slice a l.length cap] ∧ l.length ≤ cap ∧ cap ≤ maxLen ∧ (a = none → cap = 0) ∧
    ∀ i x, l[i]? = some x → ∃ b o xs, a = some ⟨b, o, none⟩ ∧ b < B ∧ E.rd w B xs x ∧ ∀ j v, xs[j]? = some v → w.cell? ⟨b, o + (i * E.size + j), none⟩ = some v
  ow w cs l fp := ∃ v xss fps, cs = [v] ∧ OwAll E w l xss fps ∧ w.ownsRow 0 ty E.size v l.length xss.flatten ∧ fp = v.ownBlock.toList ++ fps.flatten
  rd_len := by rintro w B cs l ⟨a, cap, rfl, _⟩; rfl
  rd_below := by
    rintro w w' B cs l h ⟨a, cap, rfl, h1, h2, h3, h4⟩
    refine ⟨a, cap, rfl, h1, h2, h3, fun i x hx => ?_⟩
    obtain ⟨b, o, xs, e1, e2, e3, e4⟩ := h4 i x hx
    exact ⟨b, o, xs, e1, e2, E.rd_below h e3, fun j v hv => by rw [h _ e2]; exact e4 j v hv⟩
  rd_mono := by
    rintro w B B' cs l h ⟨a, cap, rfl, h1, h2, h3, h4⟩
    refine ⟨a, cap, rfl, h1, h2, h3, fun i x hx => ?_⟩
    obtain ⟨b, o, xs, e1, e2, e3, e4⟩ := h4 i x hx
    exact ⟨b, o, xs, e1, by omega, E.rd_mono h e3, e4⟩
  ow_rd := by
    rintro w cs l fp B hB ⟨v, xss, fps, rfl, h1, h2, rfl⟩
    obtain ⟨hx, h2⟩ := h2
    rcases h2 with ⟨rfl, hn⟩ | ⟨g, cap, cur, rfl, hg, hh, hc, hm, hs, ht⟩
    · have hl : l = [] := List.eq_nil_of_length_eq_zero hn
      subst hl
      exact ⟨none, 0, rfl, Nat.le_refl _, Nat.zero_le _, fun _ => rfl, fun i x hx => by simp at hx⟩
    · refine ⟨some ⟨g, 0, none⟩, cap, rfl, hc, hm, (fun h => by cases h), fun i x hxi => ?_⟩
      obtain ⟨xs, f, e1, e2, e3, e4, e5⟩ := h1.rdAt (B := B) (fun b hb => hB b (List.mem_append_right _ hb)) i x hxi
      refine ⟨g, 0, xs, rfl, hB g (by simp [Value.ownBlock]), e4, fun j v hv => ?_⟩
      have hf := e5 j v hv
      rw [← ht, List.getElem?_take] at hf
      split at hf
      · rw [Nat.zero_add]
        unfold World.cell?
        rw [hh]
        simpa using hf
      · cases hf
  ow_lt := by
    rintro w cs l fp ⟨v, xss, fps, rfl, h1, h2, rfl⟩ b hb
    rcases List.mem_append.1 hb with h | h
    · exact (h2.lt b (by simpa using h)).2
    · exact h1.lt b h
  ow_frame := by
    rintro w w' cs l fp h ⟨v, xss, fps, rfl, h1, h2, rfl⟩
    refine ⟨v, xss, fps, rfl, h1.frame (fun b hb => h b (List.mem_append_right _ hb)), ⟨h2.1, ?_⟩, rfl⟩
    rcases h2.2 with hn | ⟨g, cap, cur, rfl, hg, hh, r⟩
    · exact .inl hn
    · exact .inr ⟨g, cap, cur, rfl, hg, by rw [h g (by simp [Value.ownBlock])]; exact hh, r⟩

/-- Below B all cells are as they were. -/
theorem Enc.rd_of {α : Type} (E : Enc α) {w w' : World} {B : Nat} {cs : List Value} {a : α} (hb : Below B w w') (h : E.rd w B cs a) : E.rd w' B cs a :=
  E.rd_below (fun _ hp => hb.cell hp) h

theorem Enc.ow_of {α : Type} (E : Enc α) {w w' : World} {cs : List Value} {a : α} {fp : List Nat} (hb : Below w.heap.size w w') (h : E.ow w cs a fp) : E.ow w' cs a fp :=
  E.ow_frame (fun b hm => hb.block b (E.ow_lt h b hm)) h

theorem Enc.rd_ow {α : Type} (E : Enc α) {w : World} {cs : List Value} {a : α} {fp : List Nat} (h : E.ow w cs a fp) : E.rd w w.heap.size cs a := E.ow_rd (E.ow_lt h) h

end Go.Proofs.YtodoghidckelcaaGreatDoor

/-
  Plain lemmas: what the form's own reading of an argument ('DataW.trod') gives: the argument can be read as a value of a Lean type ('Enc.rd'). No program is named here.
-/
namespace Go.Proofs.YtodoghidckelcaaGreatDoor
open Go.RowKit Go.ChangeShapes Go.WideShapes

/-- Whatever the form reads at type 't' is a value of E's type. -/
def Opens (P : Program) {α : Type} (E : Enc α) (t : TypeId) : Prop :=
  ∀ (H : Type) (enc : TypeId × Value → H) (w : World) (fuel : Nat) (cs : List Value) (x : DataW H × List MemPlace),
    DataW.trod enc P w 0 (fun _ => true) true fuel t cs = some x → ∃ a, E.rd w w.heap.size cs a

section
variable {P : Program} {t : TypeId}

theorem wf_bounds {a : Int} (h : (Lit.int .i64 a).wf = true) : -9223372036854775808 ≤ a ∧ a ≤ 9223372036854775807 := by
  simpa [Lit.wf, IntKind.min, IntKind.max, IntKind.bits, IntKind.signed] using h

theorem opens_int (h : P.underlying t = some (.int .i64)) : Opens P intE t := by
  intro H enc w fuel cs x hx
  obtain ⟨n, rfl, rfl, hw⟩ := DataW.trod_int h hx
  exact ⟨n, rfl, wf_bounds hw⟩

theorem opens_bool (h : P.underlying t = some .bool) : Opens P boolE t := by
  intro H enc w fuel cs x hx
  obtain ⟨n, rfl, rfl⟩ := DataW.trod_bool h hx
  exact ⟨n, rfl⟩

theorem opens_str (h : P.underlying t = some .string) : Opens P strE t := by
  intro H enc w fuel cs x hx
  obtain ⟨n, rfl, rfl, hs⟩ := DataW.trod_string h hx
  exact ⟨n, rfl, hs⟩

theorem opens_via {α β : Type} {E : Enc β} {f : α → β} (g : β → α) (hg : ∀ b, f (g b) = b) (h : Opens P E t) : Opens P (viaE E f) t := by
  intro H enc w fuel cs x hx
  obtain ⟨b, hb⟩ := h H enc w fuel cs x hx
  exact ⟨g b, by show E.rd _ _ _ (f (g b)); rw [hg]; exact hb⟩

theorem cells_get : ∀ {w : World} {a : Addr} {n : Nat} {cs : List Value}, w.cells? 0 a n = some cs → cs.length = n ∧ ∀ j v, cs[j]? = some v → w.cell? (a.add j) = some v := by
  intro w a n cs h
  unfold World.cells? at h
  rw [if_pos (Nat.zero_le _)] at h
  refine ⟨by simpa using mapM_some_length h, fun j v hj => ?_⟩
  have hj' : j < n := by have := (List.getElem?_eq_some_iff.1 hj).1; have h2 : cs.length = n := (by simpa using mapM_some_length h); omega
  have := mapM_some_get h j j (by simp [hj'])
  rw [this, hj]

theorem opens_slice {α : Type} {E : Enc α} {e : TypeId} (h : P.underlying t = some (.slice e)) (he : Opens P E e) (hs : P.cellsOf e = E.size) (hpos : 0 < E.size) : Opens P (sliceE E e) t := by
  intro H enc w fuel cs x hx
  rcases Deep.open_slice h hx with ⟨rfl, _⟩ | ⟨a, len, cap, m, n, D, Pl, rfl, _, hl, hm, hmm, _, hel⟩
  · exact ⟨[], none, 0, rfl, Nat.le_refl _, Nat.zero_le _, fun _ => rfl, fun i x hx => by simp at hx⟩
  · have hcap : m = cap := by simpa using hmm
    have hA : ∀ i, i < len → ∃ p : List Value × α, w.cells? 0 (a.add (i * E.size)) E.size = some p.1 ∧ E.rd w w.heap.size p.1 p.2 := by
      intro i hi
      obtain ⟨cs', h1, h2⟩ := hel i (by omega)
      obtain ⟨y, hy⟩ := he _ _ _ _ _ _ h2
      rw [hs] at h1
      exact ⟨(cs', y), h1, hy⟩
    by_cases h0 : len = 0
    · subst h0
      exact ⟨[], some a, cap, rfl, hl, hm, (fun h => by cases h), fun i x hx => by simp at hx⟩
    · obtain ⟨⟨c0, y0⟩, _⟩ := hA 0 (by omega)
      haveI : Inhabited (List Value × α) := ⟨(c0, y0)⟩
      obtain ⟨f, hf⟩ := Deep.choose_lt hA
      refine ⟨(List.range len).map fun i => (f i).2, some a, cap, by simp, by simpa using hl, hm, (fun h => by cases h), fun i x hx => ?_⟩
      have hi : i < len := by have := (List.getElem?_eq_some_iff.1 hx).1; simpa using this
      have hxe : x = (f i).2 := by
        rw [List.getElem?_map, List.getElem?_range hi] at hx
        simpa using hx.symm
      subst hxe
      obtain ⟨h1, h2⟩ := hf i hi
      obtain ⟨hlen, hget⟩ := cells_get h1
      have hsp : ∃ b o, a = ⟨b, o, none⟩ ∧ b < w.heap.size := by
        have hc0 : ∃ v, (f 0).1[0]? = some v := by
          obtain ⟨h1', _⟩ := hf 0 (by omega)
          have := (cells_get h1').1
          exact ⟨_, List.getElem?_eq_getElem (by omega)⟩
        obtain ⟨v, hv⟩ := hc0
        have := (cells_get (hf 0 (by omega)).1).2 0 v hv
        simp only [Nat.zero_mul, Addr.add, if_true] at this
        have h3 := World.cell?_spot this
        have h4 := World.block_lt_of_cell? w _ this
        obtain ⟨b, o, s⟩ := a
        exact ⟨b, o, by simpa using h3, h4⟩
      obtain ⟨b, o, rfl, hb⟩ := hsp
      refine ⟨b, o, (f i).1, rfl, hb, h2, fun j v hv => ?_⟩
      have := hget j v hv
      rw [Deep.add_add] at this
      simpa [Addr.add_lit] using this

/-- The fields of a struct, one behind the other. -/
inductive OpensF (P : Program) : {α : Type} → List Field → Nat → Enc α → Prop
  | last {α : Type} {E : Enc α} {f : Field} {off : Nat} : Opens P E f.type → f.offset = off → P.cellsOf f.type = E.size → OpensF P [f] off E
  | cons {α β : Type} {E : Enc α} {F : Enc β} {f : Field} {fs : List Field} {off : Nat} : Opens P E f.type → f.offset = off → P.cellsOf f.type = E.size → OpensF P fs (off + E.size) F →
      OpensF P (f :: fs) off (pairE E F)

theorem OpensF.rd {α : Type} {fs : List Field} {off : Nat} {E : Enc α} (h : OpensF P fs off E) {H : Type} {enc : TypeId × Value → H} {w : World} {n : Nat} {cs : List Value}
    (hf : ∀ f, f ∈ fs → ∃ x, DataW.trod enc P w 0 (fun _ => true) true n f.type ((cs.drop f.offset).take (P.cellsOf f.type)) = some x) : ∃ a, E.rd w w.heap.size ((cs.drop off).take E.size) a := by
  induction h with
  | @last α E f off h1 h2 h3 =>
    obtain ⟨x, hx⟩ := hf f (by simp)
    rw [h2, h3] at hx
    exact h1 _ _ _ _ _ _ hx
  | @cons α β E F f fs off h1 h2 h3 h4 ih =>
    obtain ⟨x, hx⟩ := hf f (by simp)
    rw [h2, h3] at hx
    obtain ⟨a, ha⟩ := h1 _ _ _ _ _ _ hx
    obtain ⟨b, hb⟩ := ih (fun g hg => hf g (by simp [hg]))
    refine ⟨(a, b), _, _, ?_, ha, hb⟩
    show List.take (E.size + F.size) _ = _
    rw [List.take_add, List.drop_drop]

theorem opens_struct {α : Type} {E : Enc α} {fs : Array Field} (h : P.underlying t = some (.struct fs)) (hs : P.cellsOf t = E.size) (hf : OpensF P fs.toList 0 E) : Opens P E t := by
  intro H enc w fuel cs x hx
  obtain ⟨xs, n, _, rfl, hl, hlen, hg⟩ := DataW.trod_struct h hx
  obtain ⟨a, ha⟩ := hf.rd (enc := enc) (w := w) (n := n) (cs := cs) (fun f hm => by
    obtain ⟨i, hi, he⟩ := List.getElem_of_mem hm
    have h1 := hg i f (by simp [← he])
    rw [h1]
    have : i < xs.length := by rw [hlen]; simpa using hi
    exact ⟨_, List.getElem?_eq_getElem this⟩)
  refine ⟨a, ?_⟩
  rw [List.drop_zero, ← hs, ← hl, List.take_length] at ha
  exact ha
end

end Go.Proofs.YtodoghidckelcaaGreatDoor

/-
  Plain lemmas: what 'Enc.rd' says of a slice, spelled as a walk reads it (one cell an element, or several), and small words for contracts. No program is named here.
-/
namespace Go.Proofs.YtodoghidckelcaaGreatDoor
open Go.RowKit

section
variable {α : Type} {E : Enc α} {ty : TypeId} {w : World} {B : Nat} {v : Value} {l : List α}

/-- A slice whose elements are one cell each. -/
theorem rd_slice1 [Inhabited α] (hs : E.size = 1) (h : (sliceE E ty).rd w B [v] l) :
    ∃ a cap, v = .slice a l.length cap ∧ l.length ≤ cap ∧ cap ≤ 9223372036854775807 ∧ (a = none → cap = 0) ∧
      ∀ k, k < l.length → ∃ b o vk, a = some ⟨b, o, none⟩ ∧ b < B ∧ w.cell? ⟨b, o + k, none⟩ = some vk ∧ E.rd w B [vk] (l[k]?.getD default) := by
  obtain ⟨a, cap, hv, h1, h2, h3, h4⟩ := h
  obtain rfl : v = .slice a l.length cap := by simpa using hv
  refine ⟨a, cap, rfl, h1, by simpa [maxLen] using h2, h3, fun k hk => ?_⟩
  have hx : l[k]? = some (l[k]?.getD default) := by simp [List.getElem?_eq_getElem hk]
  obtain ⟨b, o, xs, e1, e2, e3, e4⟩ := h4 k _ hx
  have hl := E.rd_len e3
  rw [hs] at hl
  match xs, hl with
  | [vk], _ =>
    have := e4 0 vk rfl
    rw [hs] at this
    exact ⟨b, o, vk, e1, e2, by simpa using this, e3⟩

theorem rd_slice (h : (sliceE E ty).rd w B [v] l) : ∃ a n c, v = .slice a n c := by
  obtain ⟨a, cap, hv, _⟩ := h
  exact ⟨a, _, cap, by simpa using hv⟩

theorem rd_ints {l : List Int} (h : (sliceE intE ty).rd w B [v] l) :
    ∃ a cap, v = .slice a l.length cap ∧ l.length ≤ cap ∧ cap ≤ 9223372036854775807 ∧ (a = none → cap = 0) ∧
      ∀ k, k < l.length → ∃ b o, a = some ⟨b, o, none⟩ ∧ b < B ∧ w.cell? ⟨b, o + k, none⟩ = some (.int .i64 (l[k]?.getD 0)) ∧ -9223372036854775808 ≤ l[k]?.getD 0 ∧ l[k]?.getD 0 ≤ 9223372036854775807 := by
  obtain ⟨a, cap, h1, h2, h3, h4, h5⟩ := rd_slice1 rfl h
  refine ⟨a, cap, h1, h2, h3, h4, fun k hk => ?_⟩
  obtain ⟨b, o, vk, e1, e2, e3, e4⟩ := h5 k hk
  obtain ⟨e5, e6⟩ := e4
  simp only [List.cons.injEq, and_true] at e5
  subst e5
  exact ⟨b, o, e1, e2, e3, e6⟩

theorem rd_bools {l : List Bool} (h : (sliceE boolE ty).rd w B [v] l) :
    ∃ a cap, v = .slice a l.length cap ∧ l.length ≤ cap ∧ cap ≤ 9223372036854775807 ∧ (a = none → cap = 0) ∧
      ∀ k, k < l.length → ∃ b o, a = some ⟨b, o, none⟩ ∧ b < B ∧ w.cell? ⟨b, o + k, none⟩ = some (.bool (l[k]?.getD false)) := by
  obtain ⟨a, cap, h1, h2, h3, h4, h5⟩ := rd_slice1 rfl h
  refine ⟨a, cap, h1, h2, h3, h4, fun k hk => ?_⟩
  obtain ⟨b, o, vk, e1, e2, e3, e4⟩ := h5 k hk
  have e5 : [vk] = [Value.bool (l[k]?.getD default)] := e4
  simp only [List.cons.injEq, and_true] at e5
  subst e5
  exact ⟨b, o, e1, e2, e3⟩

theorem rd_strs {l : List ByteArray} (h : (sliceE strE ty).rd w B [v] l) :
    ∃ a cap, v = .slice a l.length cap ∧ l.length ≤ cap ∧ cap ≤ 9223372036854775807 ∧ (a = none → cap = 0) ∧
      ∀ k, k < l.length → ∃ b o, a = some ⟨b, o, none⟩ ∧ b < B ∧ w.cell? ⟨b, o + k, none⟩ = some (.string (l[k]?.getD ByteArray.empty)) ∧ (l[k]?.getD ByteArray.empty).size ≤ 9223372036854775807 := by
  obtain ⟨a, cap, h1, h2, h3, h4, h5⟩ := rd_slice1 (E := strE) rfl h
  refine ⟨a, cap, h1, h2, h3, h4, fun k hk => ?_⟩
  obtain ⟨b, o, vk, e1, e2, e3, e4⟩ := h5 k hk
  obtain ⟨e5, e6⟩ := e4
  simp only [List.cons.injEq, and_true] at e5
  subst e5
  exact ⟨b, o, e1, e2, e3, e6⟩
end

theorem len_le {α : Type} {E : Enc α} {ty : TypeId} {w : World} {B : Nat} {cs : List Value} {l : List α} (h : (sliceE E ty).rd w B cs l) : l.length ≤ 9223372036854775807 := by
  obtain ⟨a, cap, _, h1, h2, _⟩ := h
  simp [maxLen] at h2
  omega

/-- A call that only reads: it hands back v; memory that was there is as it was. -/
def Gives (v : Value) (w : World) (e : Ending) (w' : World) : Prop := e = .returned v ∧ Below w.heap.size w w'

/-- A call that hands back v and leaves the world as it was. -/
def Keeps (v : Value) (w : World) (e : Ending) (w' : World) : Prop := e = .returned v ∧ w = w'

/-- A call that hands back a value of one cell, of new memory ('f': the value among the results). -/
def Makes {α : Type} (E : Enc α) (f : Value → Value) (a : α) (w : World) (e : Ending) (w' : World) : Prop :=
  ∃ v fp, e = .returned (f v) ∧ E.ow w' [v] a fp ∧ fp.Nodup ∧ (∀ b, b ∈ fp → w.heap.size ≤ b) ∧ Below w.heap.size w w'

/-- The same of a struct. -/
def MakesS {α : Type} (E : Enc α) (f : Value → Value) (a : α) (w : World) (e : Ending) (w' : World) : Prop :=
  ∃ cs fp, e = .returned (f (.agg cs.toArray)) ∧ E.ow w' cs a fp ∧ fp.Nodup ∧ (∀ b, b ∈ fp → w.heap.size ≤ b) ∧ Below w.heap.size w w'

/-- Every block but those of a list is as it was. -/
structure But (fp : List Nat) (w w' : World) : Prop where
  os : w'.os = w.os
  tape : w'.tape = w.tape
  output : w'.output = w.output
  size : w.heap.size ≤ w'.heap.size
  block : ∀ k, k < w.heap.size → k ∉ fp → w'.heap[k]? = w.heap[k]?

theorem But.below {fp : List Nat} {w w' : World} {B : Nat} (h : But fp w w') (hB : ∀ b, b ∈ fp → B ≤ b) (hs : B ≤ w.heap.size) : Below B w w' :=
  ⟨h.os, h.tape, h.output, h.size, fun k hk => h.block k (by omega) (fun hm => by have := hB k hm; omega)⟩

theorem ownsRow_zero {w : World} {base : Nat} {e : TypeId} {size : Nat} {v : Value} {n : Nat} {xs : List Value} (h : w.ownsRow base e size v n xs) : w.ownsRow 0 e size v n xs := by
  refine ⟨h.1, ?_⟩
  rcases h.2 with h | ⟨g, cap, cur, h1, _, h2⟩
  · exact .inl h
  · exact .inr ⟨g, cap, cur, h1, Nat.zero_le _, h2⟩

theorem flat_ones (vs : List Value) : (vs.map fun v => [v]).flatten = vs := by
  induction vs with
  | nil => rfl
  | cons v vs ih => simp [ih]

/-- A slice of elements of one cell that lead nowhere. -/
theorem ow_flat {α : Type} {E : Enc α} {ty : TypeId} {w : World} {v : Value} {l : List α} {base : Nat} (f : α → Value) (hE : E.size = 1) (hf : ∀ x, x ∈ l → E.ow w [f x] x []) (h : w.ownsRow base ty 1 v l.length (l.map f)) :
    (sliceE E ty).ow w [v] l v.ownBlock.toList := by
  refine ⟨v, (l.map f).map fun v => [v], l.map fun _ => [], rfl, ?_, ?_, ?_⟩
  · clear h
    induction l with
    | nil => exact .nil
    | cons a l ih => exact .cons (hf a (by simp)) (ih fun x hx => hf x (by simp [hx]))
  · rw [hE, flat_ones]; exact ownsRow_zero h
  · have : (l.map fun _ => ([] : List Nat)).flatten = [] := by simp
    rw [this, List.append_nil]

/-- A slice of elements of one cell. -/
theorem ow_ones {α : Type} {E : Enc α} {ty : TypeId} {w : World} {v : Value} {l : List α} {vs : List Value} {fps : List (List Nat)} {base : Nat} (hE : E.size = 1) (hf : OwAll E w l (vs.map fun v => [v]) fps)
    (h : w.ownsRow base ty 1 v l.length vs) : (sliceE E ty).ow w [v] l (v.ownBlock.toList ++ fps.flatten) :=
  ⟨v, vs.map fun v => [v], fps, rfl, hf, by rw [hE, flat_ones]; exact ownsRow_zero h, rfl⟩

theorem ownsRow_cells {w : World} {base : Nat} {e : TypeId} {size : Nat} {v : Value} {n : Nat} {xs : List Value} (h : w.ownsRow base e size v n xs) : v.cells.toList = [v] := by
  rcases h.2 with ⟨rfl, _⟩ | ⟨g, cap, cur, rfl, _⟩ <;> rfl

theorem ow_shape {α : Type} {E : Enc α} {ty : TypeId} {w : World} {v : Value} {l : List α} {fp : List Nat} (h : (sliceE E ty).ow w [v] l fp) : ∃ a c, v = .slice a l.length c := by
  obtain ⟨v', xss, fps, hv, _, h2, _⟩ := h
  obtain rfl : v = v' := by simpa using hv
  rcases h2.2 with ⟨rfl, hn⟩ | ⟨g, cap, cur, rfl, _⟩
  · exact ⟨none, 0, by rw [hn]⟩
  · exact ⟨_, _, rfl⟩

theorem ow_slice {α : Type} {E : Enc α} {ty : TypeId} {w : World} {v : Value} {l : List α} {fp : List Nat} (h : (sliceE E ty).ow w [v] l fp) : ∃ a n c, v = .slice a n c := by
  obtain ⟨a, c, h⟩ := ow_shape h
  exact ⟨a, _, c, h⟩

theorem get_some {α : Type} (d : α) {l : List α} {k : Nat} (h : k < l.length) : l[k]? = some (l[k]?.getD d) := by simp [List.getElem?_eq_getElem h]

theorem nodup_option (o : Option Nat) : o.toList.Nodup := by cases o <;> simp

/-- The end of a walk that hands back a slice of its own, of elements of one cell that lead nowhere. -/
theorem makes_flat {α : Type} {E : Enc α} {ty : TypeId} {w wr : World} {v : Value} {l : List α} {g : Nat} (f : α → Value) (hE : E.size = 1) (hf : ∀ x, x ∈ l → E.ow wr [f x] x []) (h : wr.ownsRow g ty 1 v l.length (l.map f))
    (hB : Below g w wr) (hg : g = w.heap.size) : Makes (sliceE E ty) id l w (.returned v) wr := by
  subst hg
  refine ⟨v, v.ownBlock.toList, rfl, ?_, nodup_option _, ?_, hB⟩
  · exact ow_flat f hE hf h
  · intro b hb
    exact (h.lt b (by simpa using hb)).1

/-- make([]T, n), n one of the walk's numbers, T of one cell. -/
theorem make_run {P : Program} {t e : TypeId} {i : TypeInfo} {z : Value} (ht : P.underlying t = some (.slice e)) (hi : P.info? e = some i) (hz : i.zero = some z) (hs : i.size = 1) (n : Nat) (hb : i.bytes * n ≤ 281474976710656) (hn : n ≤ 9223372036854775807) (w : World) :
    (Instr.makeSlice t (.int .i64 (n : Int)) (.int .i64 (n : Int))).run P w = .ok (.slice (some ⟨w.heap.size, 0, none⟩) n n) (w.alloc (.cells (madeCells z.cells n) e)) := by
  have hb' : (i.bytes : Int) * (n : Int) ≤ 281474976710656 := by
    have h : ((i.bytes * n : Nat) : Int) ≤ 281474976710656 := by omega
    rwa [Int.natCast_mul] at h
  have := run_make w t e i z ht hi hz .i64 .i64 n n (by omega) (by omega) hb' (by omega)
  rw [this]
  simp [hs]

theorem made_owns {w : World} {ty : TypeId} (z : Value) (n : Nat) (hn : n ≤ maxLen) : (w.alloc (.cells (madeCells #[z] n) ty)).ownsRow w.heap.size ty 1 (.slice (some ⟨w.heap.size, 0, none⟩) n n) n (List.replicate n z) := by
  have := World.ownsRow_lit (e := ty) (size := 1) w (madeCells #[z] n) n (Nat.le_refl _) hn (by simp [size_madeCells])
  rwa [toList_madeCells_one] at this

theorem ownsRow_below {w w' : World} {base : Nat} {e : TypeId} {size : Nat} {v : Value} {n : Nat} {xs : List Value} (h : w.ownsRow base e size v n xs) (hb : Below w.heap.size w w') : w'.ownsRow base e size v n xs :=
  h.kept (row := none) ⟨hb.os, hb.tape, hb.output, hb.size, fun k hk _ => hb.block k hk⟩ (by cases hv : v.ownBlock <;> simp)

/-- A row of n cells of its own (block g), of which the first k have been filled, each with a value that leads to blocks of its own. -/
def Spine {α : Type} (E : Enc α) (ty : TypeId) (g n : Nat) (z : Value) (l : List α) (k : Nat) (w0 wr : World) : Prop :=
  ∃ vs fps, vs.length = k ∧ wr.ownsRow g ty 1 (.slice (some ⟨g, 0, none⟩) n n) n (vs ++ List.replicate (n - k) z) ∧ OwAll E wr (l.take k) (vs.map fun v => [v]) fps ∧ fps.flatten.Nodup ∧ (∀ b, b ∈ fps.flatten → g < b) ∧ Below g w0 wr

section
variable {α : Type} {E : Enc α} {ty : TypeId} {g n k : Nat} {z : Value} {l : List α} {w0 wr : World}

theorem Spine.start (h : wr.ownsRow g ty 1 (.slice (some ⟨g, 0, none⟩) n n) n (List.replicate n z)) (hB : Below g w0 wr) : Spine E ty g n z l 0 w0 wr :=
  ⟨[], [], rfl, by simpa using h, by simpa using OwAll.nil, by simp, by simp, hB⟩

theorem Spine.below (h : Spine E ty g n z l k w0 wr) : Below g w0 wr := by
  obtain ⟨vs, fps, _, _, _, _, _, h⟩ := h
  exact h

theorem Spine.lt (h : Spine E ty g n z l k w0 wr) : g < wr.heap.size := by
  obtain ⟨vs, fps, _, h, _⟩ := h
  exact (h.lt g rfl).2

theorem Spine.cell (h : Spine E ty g n z l k w0 wr) (hk : k < n) {w1 : World} (hb : Below wr.heap.size wr w1) : w1.cell? ⟨g, k, none⟩ = some z ∧ w1.frozen? ⟨g, k, none⟩ = false := by
  obtain ⟨vs, fps, hl, h, _⟩ := h
  have h1 := ownsRow_below h hb
  refine ⟨?_, h1.frozenAt k⟩
  rw [h1.cellAt k (by omega), List.getElem?_append_right (by omega), hl, Nat.sub_self, List.getElem?_replicate, if_pos (by omega)]

theorem Spine.step (h : Spine E ty g n z l k w0 wr) (hk : k < n) {w1 : World} (hb : Below wr.heap.size wr w1) {x : α} (hx : l[k]? = some x) {v : Value} {fp : List Nat} (ho : E.ow w1 [v] x fp) (hn : fp.Nodup)
    (hf : ∀ b, b ∈ fp → wr.heap.size ≤ b) : Spine E ty g n z l (k + 1) w0 (w1.setCell ⟨g, k, none⟩ v) := by
  have hgl := h.lt
  obtain ⟨vs, fps, hl, h1, h2, h3, h4, h5⟩ := h
  have hd : ∀ b, b ∈ fps.flatten → b < wr.heap.size := h2.lt
  refine ⟨vs ++ [v], fps ++ [fp], by simp [hl], ?_, ?_, ?_, ?_, ?_⟩
  · have := ((ownsRow_below h1 hb).stored k v).1
    have e : (vs ++ List.replicate (n - k) z).set k v = vs ++ [v] ++ List.replicate (n - (k + 1)) z := by
      rw [List.set_append_right _ _ (by omega), hl, Nat.sub_self, show n - k = (n - (k + 1)) + 1 from by omega, List.replicate_succ]
      simp
    rwa [e] at this
  · have hkl : k < l.length := (List.getElem?_eq_some_iff.1 hx).1
    have hx' : l[k] = x := (List.getElem?_eq_some_iff.1 hx).2
    rw [List.take_succ_eq_append_getElem hkl, hx', List.map_append]
    refine (h2.frame fun b hm => ?_).append (OwAll.one (E.ow_frame (fun b hm => ?_) ho))
    · have hne : b ≠ g := by have := h4 b hm; omega
      rw [Below.heap_setCell _ _ _ _ (by simpa using hne)]
      exact hb.block b (hd b hm)
    · have hne : b ≠ g := by have := hf b hm; omega
      rw [Below.heap_setCell _ _ _ _ (by simpa using hne)]
  · rw [List.flatten_append, List.nodup_append]
    refine ⟨h3, by simpa using hn, fun a ha b hb' e => ?_⟩
    have h6 := hd a ha
    have h7 := hf b (by simpa using hb')
    omega
  · intro b hm
    rw [List.flatten_append] at hm
    rcases List.mem_append.1 hm with hm | hm
    · exact h4 b hm
    · have := hf b (by simpa using hm)
      omega
  · exact (h5.trans (hb.mono (by omega))).setCell (Nat.le_refl _) _

theorem Spine.done (h : Spine E ty g n z l n w0 wr) (hE : E.size = 1) (hn : n = l.length) (hg : g = w0.heap.size) : Makes (sliceE E ty) id l w0 (.returned (.slice (some ⟨g, 0, none⟩) n n)) wr := by
  subst hn
  obtain ⟨vs, fps, hl, h1, h2, h3, h4, h5⟩ := h
  rw [List.take_length] at h2
  rw [Nat.sub_self, List.replicate_zero, List.append_nil] at h1
  refine ⟨_, g :: fps.flatten, rfl, ow_ones hE h2 h1, ?_, ?_, hg ▸ h5⟩
  · rw [List.nodup_cons]
    exact ⟨fun hm => by have := h4 g hm; omega, h3⟩
  · intro b hm
    rcases List.mem_cons.1 hm with rfl | hm
    · omega
    · have := h4 b hm
      omega
end

/-- Block b holds these cells, and may be written. -/
def Blk (w : World) (b : Nat) (cs : List Value) (ty : TypeId) : Prop := w.heap[b]? = some (.cells cs.toArray ty (0, 0))

section
variable {w w' : World} {b : Nat} {cs : List Value} {ty : TypeId}

theorem Blk.lt (h : Blk w b cs ty) : b < w.heap.size := (Array.getElem?_eq_some_iff.1 h).1
theorem Blk.new (w : World) (cs : Array Value) (ty : TypeId) : Blk (w.alloc (.cells cs ty)) w.heap.size cs.toList ty := by
  unfold Blk; rw [heap_alloc_new]
theorem Blk.alloc (h : Blk w b cs ty) (o : Obj) : Blk (w.alloc o) b cs ty := by
  unfold Blk; rw [Below.heap_alloc w o b h.lt]; exact h
theorem Blk.of {B : Nat} (h : Blk w b cs ty) (hb : Below B w w') (hB : b < B) : Blk w' b cs ty := by
  unfold Blk; rw [hb.block b hB]; exact h
theorem Blk.same (h : Blk w b cs ty) (hb : w'.heap[b]? = w.heap[b]?) : Blk w' b cs ty := by
  unfold Blk; rw [hb]; exact h
theorem Blk.set (h : Blk w b cs ty) (i : Nat) (v : Value) : Blk (w.setCell ⟨b, i, none⟩ v) b (cs.set i v) ty := by
  unfold Blk; rw [heap_setCell_same w b i cs.toArray ty v h]; simp
theorem Blk.other (h : Blk w b cs ty) {a : Addr} (ha : b ≠ a.block) (v : Value) : Blk (w.setCell a v) b cs ty := by
  unfold Blk; rw [Below.heap_setCell _ _ _ _ ha]; exact h
theorem Blk.cell (h : Blk w b cs ty) (i : Nat) {v : Value} (hv : cs[i]? = some v) : w.cell? ⟨b, i, none⟩ = some v := by
  have : w.heap[b]? = some (.cells cs.toArray ty (0, 0)) := h
  simp [World.cell?, this, hv]
theorem Blk.free (h : Blk w b cs ty) (i : Nat) : w.frozen? ⟨b, i, none⟩ = false := frozen_of_row w b i _ _ h
end

theorem blk1 {w w' : World} {c0 : Array Value} {t0 : TypeId} (h : w.alloc (.cells c0 t0) = w') : Blk w' w.heap.size c0.toList t0 ∧ Below w.heap.size w w' := by
  subst h
  exact ⟨Blk.new _ _ _, (Below.refl _ _).alloc (Nat.le_refl _) _⟩

theorem blk2 {w w' : World} {c0 c1 : Array Value} {t0 t1 : TypeId} (h : (w.alloc (.cells c0 t0)).alloc (.cells c1 t1) = w') :
    Blk w' w.heap.size c0.toList t0 ∧ Blk w' (w.heap.size + 1) c1.toList t1 ∧ Below w.heap.size w w' := by
  obtain ⟨h0, h1⟩ := blk1 (rfl : w.alloc (.cells c0 t0) = _)
  obtain ⟨h2, h3⟩ := blk1 h
  rw [World.size_alloc] at h2 h3
  exact ⟨h0.of h3 (by omega), h2, h1.trans (h3.mono (by omega))⟩

theorem blk3 {w w' : World} {c0 c1 c2 : Array Value} {t0 t1 t2 : TypeId} (h : ((w.alloc (.cells c0 t0)).alloc (.cells c1 t1)).alloc (.cells c2 t2) = w') :
    Blk w' w.heap.size c0.toList t0 ∧ Blk w' (w.heap.size + 1) c1.toList t1 ∧ Blk w' (w.heap.size + 1 + 1) c2.toList t2 ∧ Below w.heap.size w w' := by
  obtain ⟨h0, h1, h2⟩ := blk2 (rfl : (w.alloc (.cells c0 t0)).alloc (.cells c1 t1) = _)
  obtain ⟨h3, h4⟩ := blk1 h
  rw [World.size_alloc, World.size_alloc] at h3 h4
  exact ⟨h0.of h4 (by omega), h1.of h4 (by omega), h3, h2.trans (h4.mono (by omega))⟩

theorem blk4 {w w' : World} {c0 c1 c2 c3 : Array Value} {t0 t1 t2 t3 : TypeId} (h : (((w.alloc (.cells c0 t0)).alloc (.cells c1 t1)).alloc (.cells c2 t2)).alloc (.cells c3 t3) = w') :
    Blk w' w.heap.size c0.toList t0 ∧ Blk w' (w.heap.size + 1) c1.toList t1 ∧ Blk w' (w.heap.size + 1 + 1) c2.toList t2 ∧ Blk w' (w.heap.size + 1 + 1 + 1) c3.toList t3 ∧ Below w.heap.size w w' := by
  obtain ⟨h0, h1, h2, h5⟩ := blk3 (rfl : ((w.alloc (.cells c0 t0)).alloc (.cells c1 t1)).alloc (.cells c2 t2) = _)
  obtain ⟨h3, h4⟩ := blk1 h
  rw [World.size_alloc, World.size_alloc, World.size_alloc] at h3 h4
  exact ⟨h0.of h4 (by omega), h1.of h4 (by omega), h2.of h4 (by omega), h3, h5.trans (h4.mono (by omega))⟩

theorem But.refl (fp : List Nat) (w : World) : But fp w w := ⟨rfl, rfl, rfl, Nat.le_refl _, fun _ _ _ => rfl⟩
theorem But.setCell {fp : List Nat} {w w' : World} (h : But fp w w') {a : Addr} (ha : a.block ∈ fp) (v : Value) : But fp w (w'.setCell a v) :=
  ⟨h.os, h.tape, h.output, by simpa using h.size, fun k hk hn => by rw [Below.heap_setCell _ _ _ _ (fun e => hn (by rw [e]; exact ha))]; exact h.block k hk hn⟩
theorem But.trans {fp : List Nat} {w w' w'' : World} (h : But fp w w') (k : But fp w' w'') : But fp w w'' :=
  ⟨k.os.trans h.os, k.tape.trans h.tape, k.output.trans h.output, Nat.le_trans h.size k.size, fun i hi hn => (k.block i (Nat.lt_of_lt_of_le hi h.size) hn).trans (h.block i hi hn)⟩
theorem But.of_below {fp : List Nat} {w w' : World} (h : Below w.heap.size w w') : But fp w w' := ⟨h.os, h.tape, h.output, h.size, fun k hk _ => h.block k hk⟩
theorem Enc.ow_but {α : Type} (E : Enc α) {w w' : World} {cs : List Value} {a : α} {fp fq : List Nat} (h : E.ow w cs a fp) (hb : But fq w w') (hd : ∀ b, b ∈ fp → b ∉ fq) : E.ow w' cs a fp :=
  E.ow_frame (fun b hm => hb.block b (E.ow_lt h b hm) (hd b hm)) h
theorem Blk.but {w w' : World} {b : Nat} {cs : List Value} {ty : TypeId} (h : Blk w b cs ty) {fq : List Nat} (hb : But fq w w') (hd : b ∉ fq) : Blk w' b cs ty := h.same (hb.block b h.lt hd)

theorem Below.lt {B : Nat} {w w' : World} (h : Below B w w') {b : Nat} (hb : b < w.heap.size) : b < w'.heap.size := Nat.lt_of_lt_of_le hb h.size

end Go.Proofs.YtodoghidckelcaaGreatDoor

/-
  The program's structs as Lean structures, and how they lie in cells (written by a program of this claim's own, gen_structs.py).
-/
namespace Go.Proofs.YtodoghidckelcaaGreatDoor
open Go.RowKit

structure Move where
  to : Int
  dir : Int
deriving DecidableEq, Inhabited

structure PMove where
  to : Int
  dir : Int
  does : Int
deriving DecidableEq, Inhabited

def moveE : Enc Move := viaE (pairE intE intE) fun m => (m.to, m.dir)
def pmoveE : Enc PMove := viaE (pairE intE (pairE intE intE)) fun m => (m.to, m.dir, m.does)

abbrev intsE : Enc (List Int) := sliceE intE 2

abbrev intssE : Enc (List (List Int)) := sliceE intsE 49

abbrev boolsE : Enc (List Bool) := sliceE boolE 4

abbrev strsE : Enc (List ByteArray) := sliceE strE 9

abbrev strssE : Enc (List (List ByteArray)) := sliceE strsE 33

abbrev movesE : Enc (List Move) := sliceE moveE 54

abbrev movessE : Enc (List (List Move)) := sliceE movesE 52

theorem one_of {cs : List Value} (h : cs.length = 1) : ∃ v, cs = [v] := by
  match cs, h with
  | [v], _ => exact ⟨v, rfl⟩

structure Rot where
  letters : Int
  start : Int
  next : List (List Int)
  fin : List Int
deriving DecidableEq, Inhabited

def rotsE : Enc Rot := viaE (pairE intE (pairE intE (pairE intssE (intsE)))) fun r => (r.letters, r.start, r.next, r.fin)

theorem rd_Rot {w : World} {B : Nat} {cs : List Value} {r : Rot} (h : rotsE.rd w B cs r) :
    ∃ v2 v3, cs = [.int .i64 r.letters, .int .i64 r.start, v2, v3] ∧ (-9223372036854775808 ≤ r.letters ∧ r.letters ≤ 9223372036854775807) ∧ (-9223372036854775808 ≤ r.start ∧ r.start ≤ 9223372036854775807) ∧ intssE.rd w B [v2] r.next ∧ intsE.rd w B [v3] r.fin := by
  obtain ⟨c0, _, rfl, ⟨rfl, b0⟩, c1, _, rfl, ⟨rfl, b1⟩, c2, c3, rfl, h2, h3⟩ := h
  obtain ⟨v2, rfl⟩ := one_of (Enc.rd_len _ h2)
  obtain ⟨v3, rfl⟩ := one_of (Enc.rd_len _ h3)
  exact ⟨v2, v3, rfl, b0, b1, h2, h3⟩

theorem ow_Rot {w : World} {v2 v3 : Value} {f2 f3 : List Nat} {r : Rot} (b0 : (-9223372036854775808 ≤ r.letters ∧ r.letters ≤ 9223372036854775807)) (b1 : (-9223372036854775808 ≤ r.start ∧ r.start ≤ 9223372036854775807))
    (h2 : intssE.ow w [v2] r.next f2) (h3 : intsE.ow w [v3] r.fin f3) : rotsE.ow w [.int .i64 r.letters, .int .i64 r.start, v2, v3] r (f2 ++ f3) :=
  ⟨_, _, [], _, rfl, rfl, ⟨⟨rfl, b0⟩, rfl⟩, ⟨_, _, [], _, rfl, rfl, ⟨⟨rfl, b1⟩, rfl⟩, ⟨_, _, _, _, rfl, rfl, h2, h3⟩⟩⟩

theorem ow_Rot_inv {w : World} {cs : List Value} {fp : List Nat} {r : Rot} (h : rotsE.ow w cs r fp) :
    ∃ v2 f2 v3 f3, cs = [.int .i64 r.letters, .int .i64 r.start, v2, v3] ∧ (-9223372036854775808 ≤ r.letters ∧ r.letters ≤ 9223372036854775807) ∧ (-9223372036854775808 ≤ r.start ∧ r.start ≤ 9223372036854775807) ∧ intssE.ow w [v2] r.next f2 ∧ intsE.ow w [v3] r.fin f3 ∧ fp = f2 ++ f3 := by
  obtain ⟨c0, d0, f0, g0, rfl, rfl, ⟨⟨rfl, b0⟩, rfl⟩, c1, d1, f1, g1, rfl, rfl, ⟨⟨rfl, b1⟩, rfl⟩, c2, d2, f2, g2, rfl, rfl, h2, h3⟩ := h
  obtain ⟨v2, rfl⟩ := one_of (Enc.rd_len _ (Enc.rd_ow _ h2))
  obtain ⟨v3, rfl⟩ := one_of (Enc.rd_len _ (Enc.rd_ow _ h3))
  exact ⟨v2, f2, v3, _, rfl, b0, b1, h2, h3, by simp⟩

structure Reader where
  letters : Int
  start : Int
  accept : List Bool
  next : List (List Int)
deriving DecidableEq, Inhabited

def readE : Enc Reader := viaE (pairE intE (pairE intE (pairE boolsE (intssE)))) fun r => (r.letters, r.start, r.accept, r.next)

theorem rd_Reader {w : World} {B : Nat} {cs : List Value} {r : Reader} (h : readE.rd w B cs r) :
    ∃ v2 v3, cs = [.int .i64 r.letters, .int .i64 r.start, v2, v3] ∧ (-9223372036854775808 ≤ r.letters ∧ r.letters ≤ 9223372036854775807) ∧ (-9223372036854775808 ≤ r.start ∧ r.start ≤ 9223372036854775807) ∧ boolsE.rd w B [v2] r.accept ∧ intssE.rd w B [v3] r.next := by
  obtain ⟨c0, _, rfl, ⟨rfl, b0⟩, c1, _, rfl, ⟨rfl, b1⟩, c2, c3, rfl, h2, h3⟩ := h
  obtain ⟨v2, rfl⟩ := one_of (Enc.rd_len _ h2)
  obtain ⟨v3, rfl⟩ := one_of (Enc.rd_len _ h3)
  exact ⟨v2, v3, rfl, b0, b1, h2, h3⟩

theorem ow_Reader {w : World} {v2 v3 : Value} {f2 f3 : List Nat} {r : Reader} (b0 : (-9223372036854775808 ≤ r.letters ∧ r.letters ≤ 9223372036854775807)) (b1 : (-9223372036854775808 ≤ r.start ∧ r.start ≤ 9223372036854775807))
    (h2 : boolsE.ow w [v2] r.accept f2) (h3 : intssE.ow w [v3] r.next f3) : readE.ow w [.int .i64 r.letters, .int .i64 r.start, v2, v3] r (f2 ++ f3) :=
  ⟨_, _, [], _, rfl, rfl, ⟨⟨rfl, b0⟩, rfl⟩, ⟨_, _, [], _, rfl, rfl, ⟨⟨rfl, b1⟩, rfl⟩, ⟨_, _, _, _, rfl, rfl, h2, h3⟩⟩⟩

theorem ow_Reader_inv {w : World} {cs : List Value} {fp : List Nat} {r : Reader} (h : readE.ow w cs r fp) :
    ∃ v2 f2 v3 f3, cs = [.int .i64 r.letters, .int .i64 r.start, v2, v3] ∧ (-9223372036854775808 ≤ r.letters ∧ r.letters ≤ 9223372036854775807) ∧ (-9223372036854775808 ≤ r.start ∧ r.start ≤ 9223372036854775807) ∧ boolsE.ow w [v2] r.accept f2 ∧ intssE.ow w [v3] r.next f3 ∧ fp = f2 ++ f3 := by
  obtain ⟨c0, d0, f0, g0, rfl, rfl, ⟨⟨rfl, b0⟩, rfl⟩, c1, d1, f1, g1, rfl, rfl, ⟨⟨rfl, b1⟩, rfl⟩, c2, d2, f2, g2, rfl, rfl, h2, h3⟩ := h
  obtain ⟨v2, rfl⟩ := one_of (Enc.rd_len _ (Enc.rd_ow _ h2))
  obtain ⟨v3, rfl⟩ := one_of (Enc.rd_len _ (Enc.rd_ow _ h3))
  exact ⟨v2, f2, v3, _, rfl, b0, b1, h2, h3, by simp⟩

structure Many where
  letters : Int
  starts : List Int
  accept : List Bool
  next : List (List (List Int))
deriving DecidableEq, Inhabited

structure Turner where
  letters : Int
  start : Int
  moves : List (List Move)
deriving DecidableEq, Inhabited

def turnE : Enc Turner := viaE (pairE intE (pairE intE (movessE))) fun r => (r.letters, r.start, r.moves)

theorem rd_Turner {w : World} {B : Nat} {cs : List Value} {r : Turner} (h : turnE.rd w B cs r) :
    ∃ v2, cs = [.int .i64 r.letters, .int .i64 r.start, v2] ∧ (-9223372036854775808 ≤ r.letters ∧ r.letters ≤ 9223372036854775807) ∧ (-9223372036854775808 ≤ r.start ∧ r.start ≤ 9223372036854775807) ∧ movessE.rd w B [v2] r.moves := by
  obtain ⟨c0, _, rfl, ⟨rfl, b0⟩, c1, c2, rfl, ⟨rfl, b1⟩, h2⟩ := h
  obtain ⟨v2, rfl⟩ := one_of (Enc.rd_len _ h2)
  exact ⟨v2, rfl, b0, b1, h2⟩

theorem ow_Turner {w : World} {v2 : Value} {f2 : List Nat} {r : Turner} (b0 : (-9223372036854775808 ≤ r.letters ∧ r.letters ≤ 9223372036854775807)) (b1 : (-9223372036854775808 ≤ r.start ∧ r.start ≤ 9223372036854775807))
    (h2 : movessE.ow w [v2] r.moves f2) : turnE.ow w [.int .i64 r.letters, .int .i64 r.start, v2] r (f2) :=
  ⟨_, _, [], _, rfl, rfl, ⟨⟨rfl, b0⟩, rfl⟩, ⟨_, _, [], _, rfl, rfl, ⟨⟨rfl, b1⟩, rfl⟩, h2⟩⟩

theorem ow_Turner_inv {w : World} {cs : List Value} {fp : List Nat} {r : Turner} (h : turnE.ow w cs r fp) :
    ∃ v2 f2, cs = [.int .i64 r.letters, .int .i64 r.start, v2] ∧ (-9223372036854775808 ≤ r.letters ∧ r.letters ≤ 9223372036854775807) ∧ (-9223372036854775808 ≤ r.start ∧ r.start ≤ 9223372036854775807) ∧ movessE.ow w [v2] r.moves f2 ∧ fp = f2 := by
  obtain ⟨c0, d0, f0, g0, rfl, rfl, ⟨⟨rfl, b0⟩, rfl⟩, c1, d1, f1, g1, rfl, rfl, ⟨⟨rfl, b1⟩, rfl⟩, h2⟩ := h
  obtain ⟨v2, rfl⟩ := one_of (Enc.rd_len _ (Enc.rd_ow _ h2))
  exact ⟨v2, _, rfl, b0, b1, h2, by simp⟩

structure Pebbler where
  letters : Int
  start : Int
  moves : List (List PMove)
deriving DecidableEq, Inhabited

structure Writer where
  turner : Turner
  out : List (List ByteArray)
deriving DecidableEq, Inhabited

def writE : Enc Writer := viaE (pairE turnE strssE) fun w => (w.turner, w.out)

theorem rd_Writer {w : World} {B : Nat} {cs : List Value} {r : Writer} (h : writE.rd w B cs r) :
    ∃ v2 v3, cs = [.int .i64 r.turner.letters, .int .i64 r.turner.start, v2, v3] ∧ turnE.rd w B [.int .i64 r.turner.letters, .int .i64 r.turner.start, v2] r.turner ∧ strssE.rd w B [v3] r.out := by
  obtain ⟨c0, c1, rfl, h0, h1⟩ := h
  obtain ⟨v2, rfl, b0, b1, h2⟩ := rd_Turner h0
  obtain ⟨v3, rfl⟩ := one_of (Enc.rd_len _ h1)
  exact ⟨v2, v3, rfl, h0, h1⟩

theorem ow_Writer {w : World} {c0 : List Value} {v3 : Value} {f0 f1 : List Nat} {r : Writer} (h0 : turnE.ow w c0 r.turner f0) (h1 : strssE.ow w [v3] r.out f1) : writE.ow w (c0 ++ [v3]) r (f0 ++ f1) := ⟨_, _, _, _, rfl, rfl, h0, h1⟩

end Go.Proofs.YtodoghidckelcaaGreatDoor

/-
  Plain lemmas: a region that draws its order and whose callees leave all memory that was there as it was (they may make new blocks): one walk in the order of the text serves every order.
-/
namespace Go.Proofs.YtodoghidckelcaaGreatDoor
open Go.RowKit

/-- w, with what u has beyond it. -/
def over (w u : World) : World := { heap := w.heap ++ u.heap.extract w.heap.size u.heap.size, tape := w.tape, drawn := u.drawn, os := w.os, output := w.output }

theorem below_over (w u : World) : Below w.heap.size w (over w u) :=
  ⟨rfl, rfl, rfl, by simp [over], fun k hk => by simp [over, Array.getElem?_append, hk]⟩

theorem over_eq {w u : World} (h : Below w.heap.size w u) : over w u = u := by
  have hh : w.heap ++ u.heap.extract w.heap.size u.heap.size = u.heap := by
    apply Array.ext_getElem?
    intro i
    rw [Array.getElem?_append]
    split
    · rename_i hi; exact (h.block i hi).symm
    · rename_i hi
      have hs := h.size
      rw [Array.getElem?_extract]
      split
      · rw [show w.heap.size + (i - w.heap.size) = i from by omega]
      · rename_i h2
        rw [Array.getElem?_eq_none (by omega)]
  obtain ⟨heap, tape, drawn, os, output⟩ := u
  unfold over
  simp only [World.mk.injEq, true_and]
  exact ⟨hh, h.tape.symm, h.os.symm, h.output.symm⟩

theorem wp_region_over {P : Program} {id : Nat} {Q : Exit → Act → World → Prop} {a : Act} {w : World} {l : List Oper} (hm : P.follows .mixedOrders = true) (hB : Region.lexB .any l.toArray = true)
    (h : wpQuiet P l.toArray (fun w' => ∃ u, w' = over w u) (fun a' => ∀ w', Below w.heap.size w w' → Q .normal a' w') l a) : (Code.region id l.toArray true).wp P Q a w := by
  refine wp_region_quiet (C := fun w' => ∃ u, w' = over w u) hm hB ⟨_, (over_eq (⟨rfl, rfl, rfl, Nat.le_refl _, fun _ _ => rfl⟩ : Below w.heap.size w { w with drawn := w.drawn + 1 })).symm⟩ ?_
  have hq : (fun a' => ∀ w', Below w.heap.size w w' → Q .normal a' w') = (fun a' => ∀ w', (∃ u, w' = over w u) → Q .normal a' w') := by
    funext a'
    apply propext
    constructor
    · rintro h w' ⟨u, rfl⟩; exact h _ (below_over w u)
    · intro h w' hb; exact h w' ⟨w', (over_eq hb).symm⟩
  rw [hq] at h
  simpa using h

/-- A callee that leaves all that was there as it was, met inside such a region. -/
theorem calls_over {P : Program} {f : FuncId} {args : Array Value} {w n : World} {v : Value}
    (h : Calls P f args (over w n) fun e w' => e = .returned v ∧ Below (over w n).heap.size (over w n) w') : Calls P f args (over w n) fun e w'' => e = .returned v ∧ ∃ m, w'' = over w m :=
  h.mono fun _ w' ⟨he, hb⟩ => ⟨he, w', (over_eq ((below_over w n).trans (hb.mono (below_over w n).size))).symm⟩

theorem calls_same {P : Program} {f : FuncId} {args : Array Value} {w n : World} {v : Value}
    (h : Calls P f args (over w n) fun e w' => e = .returned v ∧ over w n = w') : Calls P f args (over w n) fun e w'' => e = .returned v ∧ ∃ m, w'' = over w m :=
  h.mono fun _ w' ⟨he, hb⟩ => ⟨he, n, hb.symm⟩

/-- Memory that was there reads as it did. -/
theorem cell_over (w : World) : ∀ (u : World) (b o : Nat), b < w.heap.size → (over w u).cell? ⟨b, o, none⟩ = w.cell? ⟨b, o, none⟩ :=
  fun u b o hb => (below_over w u).cell (p := ⟨b, o, none⟩) hb

end Go.Proofs.YtodoghidckelcaaGreatDoor

/-
  Plain lemmas for the laws' own helpers. No program is named here.
-/
namespace Go.Proofs.YtodoghidckelcaaGreatDoor
open Go.RowKit

theorem take_succ_map {α : Type} (d : α) (f : α → Value) (l : List α) (k n : Nat) (z : Value) (hn : l.length = n) (hk : k < n) :
    (((l.take k).map f) ++ List.replicate (n - k) z).set k (f (l[k]?.getD d)) = ((l.take (k + 1)).map f) ++ List.replicate (n - (k + 1)) z := by
  subst hn
  rw [List.take_succ_eq_append_getElem hk, List.map_append, List.append_assoc]
  have hlen : ((l.take k).map f).length = k := by simp; omega
  rw [List.set_append_right _ _ (by omega), hlen, Nat.sub_self, show l.length - k = (l.length - (k + 1)) + 1 from by omega, List.replicate_succ]
  simp [List.getElem?_eq_getElem hk]

theorem beq_len {a b : Nat} (h : a = b) : ((a : Int) != (b : Int)) = false := by simp [h]
theorem bne_len {a b : Nat} (h : ¬ a = b) : ((a : Int) != (b : Int)) = true := by simp; omega

theorem ext_getD {α : Type} (d : α) {la lb : List α} (hl : la.length = lb.length) (h : ∀ i, i < la.length → la[i]?.getD d = lb[i]?.getD d) : la = lb := by
  apply List.ext_getElem hl
  intro i h1 h2
  have := h i h1
  simpa [List.getElem?_eq_getElem h1, List.getElem?_eq_getElem h2] using this

/-- What is left of a number behind t; -1 if that is too little. -/
def lim (t : Nat) (left : Int) : Int := if left < t then -1 else left - t

theorem lim_of_lt {t : Nat} {left : Int} (h : left < t) : lim t left = -1 := if_pos h
theorem lim_of_ge {t : Nat} {left : Int} (h : ¬ left < t) : lim t left = left - t := if_neg h

/-- The elements' own sizes. -/
def sumLen {α : Type} (l : List (List α)) : Nat := (l.map List.length).sum

theorem sumLen_take {α : Type} (l : List (List α)) (k : Nat) (x : List α) (h : l[k]? = some x) : sumLen (l.take (k + 1)) = sumLen (l.take k) + x.length := by
  obtain ⟨hk, rfl⟩ := List.getElem?_eq_some_iff.1 h
  rw [List.take_succ_eq_append_getElem hk]
  simp only [sumLen, List.map_append, List.sum_append, List.map_cons, List.map_nil, List.sum_cons, List.sum_nil, Nat.add_zero]

theorem sumLen_le {α : Type} (l : List (List α)) (k : Nat) : sumLen (l.take k) ≤ sumLen l := by
  conv => rhs; rw [← List.take_append_drop k l]
  simp only [sumLen, List.map_append, List.sum_append]
  omega

theorem sumLen_mem {α : Type} (l : List (List α)) (x : List α) (h : x ∈ l) : x.length ≤ sumLen l := by
  induction l with
  | nil => cases h
  | cons a l ih =>
    simp only [sumLen, List.map_cons, List.sum_cons] at *
    rcases List.mem_cons.1 h with rfl | h
    · omega
    · have := ih h; omega

/-- A slice of elements of several cells that lead nowhere. -/
theorem ow_flats {α : Type} {E : Enc α} {ty : TypeId} {w : World} {v : Value} {l : List α} {base : Nat} (c : α → List Value) (hf : ∀ x, x ∈ l → E.ow w (c x) x []) (h : w.ownsRow base ty E.size v l.length (l.flatMap c)) :
    (sliceE E ty).ow w [v] l v.ownBlock.toList := by
  refine ⟨v, l.map c, l.map fun _ => [], rfl, ?_, ?_, ?_⟩
  · clear h
    induction l with
    | nil => exact .nil
    | cons a l ih => exact .cons (hf a (by simp)) (ih fun x hx => hf x (by simp [hx]))
  · rw [← List.flatMap_def]; exact ownsRow_zero h
  · have : (l.map fun _ => ([] : List Nat)).flatten = [] := by simp
    rw [this, List.append_nil]

theorem makes_flats {α : Type} {E : Enc α} {ty : TypeId} {w wr : World} {v : Value} {l : List α} {g : Nat} (c : α → List Value) (hf : ∀ x, x ∈ l → E.ow wr (c x) x []) (h : wr.ownsRow g ty E.size v l.length (l.flatMap c))
    (hB : Below g w wr) (hg : g = w.heap.size) : Makes (sliceE E ty) id l w (.returned v) wr := by
  subst hg
  refine ⟨v, v.ownBlock.toList, rfl, ow_flats c hf h, nodup_option _, ?_, hB⟩
  intro b hb
  exact (h.lt b (by simpa using hb)).1

theorem flatMap_len {α : Type} (c : α → List Value) (s : Nat) (hc : ∀ x, (c x).length = s) (l : List α) : (l.flatMap c).length = l.length * s := by
  induction l with
  | nil => simp
  | cons a l ih => rw [List.flatMap_cons, List.length_append, ih, hc, List.length_cons, Nat.succ_mul]; omega

theorem flatMap_take {α : Type} (d : α) (c : α → List Value) (l : List α) (k : Nat) (hk : k < l.length) : (l.take (k + 1)).flatMap c = (l.take k).flatMap c ++ c (l[k]?.getD d) := by
  rw [List.take_succ_eq_append_getElem hk, List.flatMap_append]
  simp [List.getElem?_eq_getElem hk]

theorem flatMap_get {α : Type} (d : α) (c : α → List Value) (s : Nat) (hc : ∀ x, (c x).length = s) (l : List α) (k i : Nat) (hk : k < l.length) (hi : i < s) : (l.flatMap c)[k * s + i]? = (c (l[k]?.getD d))[i]? := by
  induction l generalizing k with
  | nil => simp at hk
  | cons a l ih =>
    rw [List.flatMap_cons]
    cases k with
    | zero => simp only [Nat.zero_mul, Nat.zero_add]; rw [List.getElem?_append_left (by rw [hc]; exact hi)]; simp
    | succ k =>
      rw [List.getElem?_append_right (by rw [hc, Nat.succ_mul]; omega), hc, show (k + 1) * s + i - s = k * s + i from by rw [Nat.succ_mul]; omega, ih k (by simpa using hk)]
      simp

theorem flatMap_set {α : Type} (d : α) (c : α → List Value) (s : Nat) (hc : ∀ x, (c x).length = s) (l : List α) (k i : Nat) (u : Value) (x : α) (hk : k < l.length) (hi : i < s) (hx : (c (l[k]?.getD d)).set i u = c x) : (l.flatMap c).set (k * s + i) u = (l.set k x).flatMap c := by
  induction l generalizing k with
  | nil => simp at hk
  | cons a l ih =>
    rw [List.flatMap_cons]
    cases k with
    | zero =>
      simp only [Nat.zero_mul, Nat.zero_add, List.set_cons_zero, List.flatMap_cons]
      rw [List.set_append_left _ _ (by rw [hc]; exact hi)]
      simp at hx
      rw [hx]
    | succ k =>
      rw [List.set_append_right _ _ (by rw [hc, Nat.succ_mul]; omega), hc, show (k + 1) * s + i - s = k * s + i from by rw [Nat.succ_mul]; omega, List.set_cons_succ, List.flatMap_cons]
      rw [ih k (by simpa using hk) (by simpa using hx)]

theorem fill2 (pre : List Value) (m : Nat) (z u0 u1 : Value) : ((pre ++ List.replicate (m + 2) z).set pre.length u0).set (pre.length + 1) u1 = pre ++ [u0, u1] ++ List.replicate m z := by
  rw [List.set_append_right _ _ (Nat.le_refl _), Nat.sub_self, List.replicate_succ, List.replicate_succ, List.set_cons_zero, List.set_append_right _ _ (by omega), show pre.length + 1 - pre.length = 1 from by omega]
  simp

theorem fill3 (pre : List Value) (m : Nat) (z u0 u1 u2 : Value) : (((pre ++ List.replicate (m + 3) z).set pre.length u0).set (pre.length + 1) u1).set (pre.length + 1 + 1) u2 = pre ++ [u0, u1, u2] ++ List.replicate m z := by
  rw [List.set_append_right _ _ (Nat.le_refl _), Nat.sub_self, List.replicate_succ, List.replicate_succ, List.replicate_succ, List.set_cons_zero, List.set_append_right _ _ (by omega), show pre.length + 1 - pre.length = 1 from by omega,
    List.set_cons_succ, List.set_cons_zero, List.set_append_right _ _ (by omega), show pre.length + 1 + 1 - pre.length = 2 from by omega]
  simp

theorem tail_get (pre : List Value) (m i : Nat) (z : Value) (hi : i < m) : (pre ++ List.replicate m z)[pre.length + i]? = some z := by
  rw [List.getElem?_append_right (by omega), show pre.length + i - pre.length = i from by omega, List.getElem?_replicate, if_pos hi]

/-- make([]T, n), T of several cells that are all alike at zero. -/
theorem make_runs {P : Program} {t e : TypeId} {i : TypeInfo} {z : Value} {s : Nat} (ht : P.underlying t = some (.slice e)) (hi : P.info? e = some i) (hz : i.zero = some z) (hs : i.size = s) (n : Nat) (hb : i.bytes * n ≤ 281474976710656) (hn : n ≤ 9223372036854775807) (w : World) :
    (Instr.makeSlice t (.int .i64 (n : Int)) (.int .i64 (n : Int))).run P w = .ok (.slice (some ⟨w.heap.size, 0, none⟩) n n) (w.alloc (.cells (madeCells z.cells (n * s)) e)) := by
  have hb' : (i.bytes : Int) * (n : Int) ≤ 281474976710656 := by
    have h : ((i.bytes * n : Nat) : Int) ≤ 281474976710656 := by omega
    rwa [Int.natCast_mul] at h
  have := run_make w t e i z ht hi hz .i64 .i64 n n (by omega) (by omega) hb' (by omega)
  rw [this]
  simp [hs]

theorem made_alike (zs : Array Value) (z : Value) (hz : ∀ i, i < zs.size → zs[i]? = some z) (hpos : 0 < zs.size) (n : Nat) : (madeCells zs n).toList = List.replicate n z := by
  apply List.ext_getElem?
  intro j
  by_cases hj : j < n
  · have hm : j % zs.size < zs.size := Nat.mod_lt _ hpos
    have := hz _ hm
    rw [Array.getElem?_eq_getElem hm] at this
    simp only [Option.some.injEq] at this
    simp [madeCells, hj, hm, this]
  · simp [madeCells, hj]

theorem made_owns2 {w : World} {ty : TypeId} (zs : Array Value) (z : Value) (s : Nat) (hs : zs.size = s) (hz : ∀ i, i < zs.size → zs[i]? = some z) (hpos : 0 < zs.size) (n : Nat) (hn : n ≤ maxLen) :
    (w.alloc (.cells (madeCells zs (n * s)) ty)).ownsRow w.heap.size ty s (.slice (some ⟨w.heap.size, 0, none⟩) n n) n (List.replicate (n * s) z) := by
  have := World.ownsRow_lit (e := ty) (size := s) w (madeCells zs (n * s)) n (Nat.le_refl _) hn (by simp [size_madeCells])
  rwa [made_alike zs z hz hpos] at this

end Go.Proofs.YtodoghidckelcaaGreatDoor

/-
  Contracts of the laws' own helpers at one slice type (written by a program of this claim's own, gen_leaf.py).
-/
namespace Go.Proofs.YtodoghidckelcaaGreatDoor
open Go.RowKit

theorem info_Int64S : (Tryz.prog.info? 2).map (fun i => (i.zero, i.size, i.bytes)) = some (some (.int .i64 0), 1, 8) := by kernel_rfl

end Go.Proofs.YtodoghidckelcaaGreatDoor

/-
  Contracts of the library's ContainsFunc and IndexFunc at the program's types, for whatever function value that answers a Bool of the element; and of the smallest functions of the program.
-/
namespace Go.Proofs.YtodoghidckelcaaGreatDoor
open Go.RowKit

/-- A number lies in a range. -/
def within (n lo hi : Int) : Bool := decide (lo ≤ n) && decide (n ≤ hi)

theorem within_true {n lo hi : Int} : within n lo hi = true ↔ lo ≤ n ∧ n ≤ hi := by simp [within]
theorem within_eq {n lo hi : Int} (h : lo ≤ n ∧ n ≤ hi) : within n lo hi = true := within_true.2 h
theorem within_ne {n lo hi : Int} (h : ¬ (lo ≤ n ∧ n ≤ hi)) : within n lo hi = false := by
  rw [Bool.eq_false_iff]; exact fun e => h (within_true.1 e)

theorem within_k (n lo hi : Int) (w : World) : Calls Tryz.prog 56 #[.int .i64 n, .int .i64 lo, .int .i64 hi] w (Keeps (.bool (within n lo hi)) w) := by
  by_cases h1 : lo ≤ n
  · have hr : within n lo hi = decide (n ≤ hi) := by simp [within, h1]
    have Hr := Lib.hid hr; clear hr
    go_enter Tryz.func56, Tryz.ntmps56
    go_wp2
    go_ret
    exact ⟨by rw [Hr.out]; rfl, rfl⟩
  · have hr : within n lo hi = false := within_ne (fun h => h1 h.1)
    have Hr := Lib.hid hr; clear hr
    go_enter Tryz.func56, Tryz.ntmps56
    go_wp2
    go_ret
    exact ⟨by rw [Hr.out]; rfl, rfl⟩

theorem l00In_k (n lo hi : Int) (w : World) : Calls Tryz.prog 48 #[.int .i64 n, .int .i64 lo, .int .i64 hi] w (Keeps (.bool (within n lo hi)) w) := by
  by_cases h1 : lo ≤ n
  · have hr : within n lo hi = decide (n ≤ hi) := by simp [within, h1]
    have Hr := Lib.hid hr; clear hr
    go_enter Tryz.func48, Tryz.ntmps48
    go_wp2
    go_ret
    exact ⟨by rw [Hr.out]; rfl, rfl⟩
  · have hr : within n lo hi = false := within_ne (fun h => h1 h.1)
    have Hr := Lib.hid hr; clear hr
    go_enter Tryz.func48, Tryz.ntmps48
    go_wp2
    go_ret
    exact ⟨by rw [Hr.out]; rfl, rfl⟩

theorem within_any (n lo hi : Int) (w : World) : Calls Tryz.prog 56 #[.int .i64 n, .int .i64 lo, .int .i64 hi] w (Gives (.bool (within n lo hi)) w) :=
  (within_k n lo hi w).mono fun _ _ ⟨h1, h2⟩ => ⟨h1, h2 ▸ Below.refl _ _⟩

theorem within_kis (r : Bool) (n lo hi : Int) (w : World) (h : within n lo hi = r) : Calls Tryz.prog 56 #[.int .i64 n, .int .i64 lo, .int .i64 hi] w (Keeps (.bool r) w) := h ▸ within_k n lo hi w

theorem l00In_is (r : Bool) (n lo hi : Int) (w : World) (h : within n lo hi = r) : Calls Tryz.prog 48 #[.int .i64 n, .int .i64 lo, .int .i64 hi] w (Keeps (.bool r) w) := h ▸ l00In_k n lo hi w

theorem all_of_idx {α : Type} (d : α) (p : α → Bool) (l : List α) (h : ∀ i, i < l.length → p (l[i]?.getD d) = true) : l.all p = true := by
  rw [List.all_eq_true]
  intro x hx
  obtain ⟨i, hi, rfl⟩ := List.getElem_of_mem hx
  have := h i hi
  simpa [List.getElem?_eq_getElem hi] using this

theorem all_not_idx {α : Type} (d : α) (p : α → Bool) (l : List α) (i : Nat) (hi : i < l.length) (h : p (l[i]?.getD d) = false) : l.all p = false := by
  rw [Bool.eq_false_iff]
  intro ha
  rw [List.all_eq_true] at ha
  have := ha l[i] (List.getElem_mem hi)
  simp [List.getElem?_eq_getElem hi] at h
  rw [h] at this
  cases this

/-- Where a function answers yes for the first time, -1 where it never does. -/
def firstIdx {α : Type} (p : α → Bool) : List α → Int
  | [] => -1
  | a :: l => if p a then 0 else if firstIdx p l < 0 then -1 else firstIdx p l + 1

theorem firstIdx_none {α : Type} (p : α → Bool) (l : List α) (h : ∀ x, x ∈ l → p x = false) : firstIdx p l = -1 := by
  induction l with
  | nil => rfl
  | cons a l ih =>
    have h1 := ih (fun x hx => h x (by simp [hx]))
    simp [firstIdx, h a (by simp), h1]

theorem firstIdx_at {α : Type} (p : α → Bool) (l : List α) (k : Nat) (x : α) (hk : l[k]? = some x) (hx : p x = true) (h : ∀ i y, i < k → l[i]? = some y → p y = false) : firstIdx p l = k := by
  induction l generalizing k with
  | nil => simp at hk
  | cons a l ih =>
    cases k with
    | zero =>
      simp only [List.getElem?_cons_zero, Option.some.injEq] at hk
      subst hk
      simp [firstIdx, hx]
    | succ k =>
      have h0 := h 0 a (by omega) rfl
      have h1 := ih k (by simpa using hk) (fun i y hi hy => h (i + 1) y (by omega) (by simpa using hy))
      have h2 : ¬ ((k : Int) < 0) := by omega
      simp [firstIdx, h0, h1, h2]

theorem firstIdx_any {α : Type} (p : α → Bool) (l : List α) : decide (0 ≤ firstIdx p l) = l.any p := by
  induction l with
  | nil => rfl
  | cons a l ih =>
    rw [List.any_cons, ← ih]
    have e : firstIdx p (a :: l) = if p a = true then 0 else if firstIdx p l < 0 then -1 else firstIdx p l + 1 := rfl
    rw [e]
    by_cases h : p a = true
    · simp [h]
    · rw [if_neg h]
      have h' : p a = false := by simpa using h
      rw [h', Bool.false_or]
      by_cases h2 : firstIdx p l < 0
      · rw [if_pos h2, decide_eq_false (by omega), decide_eq_false (by omega)]
      · rw [if_neg h2, decide_eq_true (by omega), decide_eq_true (by omega)]

end Go.Proofs.YtodoghidckelcaaGreatDoor

/-
  Plain lemmas: append on a slice of the call's own, its elements of whatever type ('Enc'); where the new slice lies. No program is named here.
-/
namespace Go.Proofs.YtodoghidckelcaaGreatDoor
open Go.RowKit

/-- What an append's second argument yields: nothing (nil), or so many elements behind an address. -/
def SrcS (w : World) (size : Nat) (x : Value) (m : Nat) (news : List Value) : Prop :=
  (∃ c, x = .slice none 0 c ∧ m = 0 ∧ news = []) ∨
    (∃ ad c, x = .slice (some ad) m c ∧ news.length = m * size ∧ (∀ j u, news[j]? = some u → w.cell? (ad.add j) = some u) ∧ ∀ u, u ∈ news → u.oneCell' = true)

theorem run_append_place {P : Program} (w : World) (t ty e : TypeId) (i : TypeInfo) (z : Value) (size bytes : Nat) (ht : P.underlying t = some (.slice e)) (hi : P.info? e = some i) (hz : i.zero = some z)
    (hsize : i.size = size) (hby : i.bytes = bytes) (hzs : z.cells.size = size) (hsz : 0 < size) (v : Value) (n : Nat) (xs : List Value) (hown : w.ownsRow 0 e size v n xs)
    (x : Value) (m : Nat) (news : List Value) (hs : SrcS w size x m news) (h63 : n + m ≤ maxLen) (hbytes : (n + m) * bytes ≤ 140737488355328) :
    ∃ v' w', (Builtin.append_ #[t, t] ty #[v, x]).run P w = .ok v' w' ∧ w'.ownsRow 0 e size v' (n + m) (xs ++ news) ∧ w.grownBy w' v.ownBlock ∧ (v'.ownBlock = v.ownBlock ∨ ∃ g, v'.ownBlock = some g ∧ w.heap.size ≤ g) ∧
      (v' = .slice none 0 0 ↔ v = .slice none 0 0 ∧ m = 0) := by
  rcases hs with ⟨c, rfl, rfl, rfl⟩ | ⟨ad, c, rfl, hl, hnews, h1⟩
  · refine ⟨v, w, ?_, by simpa using hown, ⟨rfl, rfl, rfl, Nat.le_refl _, fun _ _ _ => rfl⟩, .inl rfl, by simp⟩
    have hS : Src P size t (.slice none 0 c) 0 [] w := Src.ofNil w ht c
    subst hsize
    rcases hown.2 with ⟨rfl, rfl⟩ | ⟨g, cap, cur, rfl, _, hg, hnc, hcm, hcs, htake⟩
    · simp [Builtin.append_, run_underlying ht, sizeOf, typeInfo, hi, Builtin.lenOf, Builtin.firstCells]
    · have := run_append_room_src (P := P) w t t ty e i ht hi g 0 n cap (.slice none 0 c) 0 [] hS (by omega) (fun j hj => by simp at hj) (fun j hj => by simp at hj)
      simpa [World.setCells] using this
  · obtain ⟨v', w', hr, h2, h3, h4⟩ := run_append_own (P := P) w 0 t ty e i z size bytes ht hi hz hsize hby hzs hsz v n xs hown ad m c news hl hnews h1 h63 hbytes (Nat.zero_le _)
    refine ⟨v', w', hr, h2, h3, ?_, h4⟩
    rcases hown.2 with ⟨rfl, rfl⟩ | ⟨g, cap, cur, rfl, _, hg, hnc, hcm, hcs, htake⟩
    · have hn : w.ownsRow w.heap.size e size (.slice none 0 0) 0 xs := ⟨hown.1, .inl ⟨rfl, rfl⟩⟩
      obtain ⟨v'', w'', hr', k2, -, -⟩ := run_append_own (P := P) w w.heap.size t ty e i z size bytes ht hi hz hsize hby hzs hsz _ 0 xs hn ad m c news hl hnews h1 h63 hbytes (Nat.le_refl _)
      rw [hr] at hr'
      obtain ⟨rfl, rfl⟩ : v' = v'' ∧ w' = w'' := by simpa using hr'
      rcases hv : v'.ownBlock with _ | g
      · exact .inl rfl
      · exact .inr ⟨g, rfl, (k2.lt g hv).1⟩
    · subst hsize
      by_cases hroom : n + m ≤ cap
      · have hfit : n * i.size + news.length ≤ cur.size := by rw [hl, hcs, ← Nat.add_mul]; exact Nat.mul_le_mul_right _ hroom
        have hr' := run_append_room (P := P) w t ty e i ht hi g n cap cur hg ad m c news hl hnews h1 hroom hfit
        rw [hr] at hr'
        obtain ⟨rfl, -⟩ : v' = _ ∧ w' = _ := by simpa using hr'
        exact .inl rfl
      · have holds : ∀ j u, xs[j]? = some u → w.cell? ((⟨g, 0, none⟩ : Addr).add j) = some u := hown.cells (g := g) rfl
        subst hby
        have hsm : n + m ≤ 9223372036854775807 := by simp only [maxLen] at h63; omega
        have hr' := run_append_grow (P := P) w t ty e i z ht hi hz ⟨g, 0, none⟩ n cap xs hown.1 holds ad m c news hl hnews (by omega) (by omega) (growslice_fits (by omega) hbytes)
        rw [hr] at hr'
        obtain ⟨rfl, -⟩ : v' = _ ∧ w' = _ := by simpa using hr'
        exact .inr ⟨_, rfl, Nat.le_refl _⟩

/-- append on a slice of one's own, the new elements with blocks of their own. -/
theorem own_append {α : Type} {E : Enc α} {ty : TypeId} {P : Program} (w : World) (t ry : TypeId) (i : TypeInfo) (z : Value) (bytes : Nat) (ht : P.underlying t = some (.slice ty)) (hi : P.info? ty = some i) (hz : i.zero = some z)
    (hsize : i.size = E.size) (hby : i.bytes = bytes) (hzs : z.cells.size = E.size) (hsz : 0 < E.size) {v : Value} {l : List α} {fp : List Nat} (hown : (sliceE E ty).ow w [v] l fp)
    (x : Value) {ys : List α} {css : List (List Value)} {fys : List (List Nat)} (hys : OwAll E w ys css fys) (hs : SrcS w E.size x ys.length css.flatten) (hd : (fp ++ fys.flatten).Nodup)
    (h63 : l.length + ys.length ≤ maxLen) (hbytes : (l.length + ys.length) * bytes ≤ 140737488355328) :
    ∃ v' w' fp', (Builtin.append_ #[t, t] ry #[v, x]).run P w = .ok v' w' ∧ (sliceE E ty).ow w' [v'] (l ++ ys) fp' ∧ fp'.Nodup ∧ (∀ b, b ∈ fp' → b ∈ fp ∨ b ∈ fys.flatten ∨ w.heap.size ≤ b) ∧ But fp w w' ∧
      (v' = .slice none 0 0 ↔ v = .slice none 0 0 ∧ ys.length = 0) := by
  obtain ⟨v0, xss, fps, hv, h1, h2, rfl⟩ := hown
  obtain rfl : v = v0 := by simpa using hv
  obtain ⟨v', w', hr, k1, k2, k3, k4⟩ := run_append_place (P := P) w t ry ty i z E.size bytes ht hi hz hsize hby hzs hsz v l.length xss.flatten h2 x ys.length css.flatten hs h63 hbytes
  have hlt1 := h1.lt
  have hlt2 := hys.lt
  rw [List.append_assoc, List.nodup_append] at hd
  obtain ⟨n1, n2, n3⟩ := hd
  have hfr : ∀ b, b ∈ fps.flatten ++ fys.flatten → w'.heap[b]? = w.heap[b]? := by
    intro b hb
    have hbl : b < w.heap.size := by
      rcases List.mem_append.1 hb with h | h
      · exact hlt1 b h
      · exact hlt2 b h
    refine k2.block b hbl (fun e => ?_)
    exact n3 b (by rw [← e]; simp) b hb rfl
  refine ⟨v', w', v'.ownBlock.toList ++ (fps ++ fys).flatten, hr, ⟨v', xss ++ css, fps ++ fys, rfl, ?_, ?_, rfl⟩, ?_, ?_, ?_, k4⟩
  · exact (h1.frame fun b hb => hfr b (List.mem_append_left _ hb)).append (hys.frame fun b hb => hfr b (List.mem_append_right _ hb))
  · rw [List.length_append, List.flatten_append]; exact k1
  · rw [List.nodup_append, List.flatten_append]
    refine ⟨nodup_option _, n2, fun a ha b hb e => ?_⟩
    subst e
    rcases k3 with k3 | ⟨g, k3, hg⟩
    · rw [k3] at ha; exact n3 a ha a hb rfl
    · rw [k3] at ha
      have hag : a = g := by simpa using ha
      have hbl : a < w.heap.size := by
        rcases List.mem_append.1 hb with h | h
        · exact hlt1 a h
        · exact hlt2 a h
      omega
  · intro b hb
    rw [List.flatten_append] at hb
    rcases List.mem_append.1 hb with hb | hb
    · rcases k3 with k3 | ⟨g, k3, hg⟩
      · rw [k3] at hb; exact .inl (List.mem_append_left _ hb)
      · rw [k3] at hb
        have : b = g := by simpa using hb
        subst this
        exact .inr (.inr hg)
    · rcases List.mem_append.1 hb with hb | hb
      · exact .inl (List.mem_append_right _ hb)
      · exact .inr (.inl hb)
  · refine ⟨k2.os, k2.tape, k2.output, k2.size, fun k hk hn => k2.block k hk (fun e => hn ?_)⟩
    exact List.mem_append_left _ (by rw [← e]; simp)

/-- The law for the walk. -/
theorem wpList_append_enc {α : Type} {E : Enc α} {ty : TypeId} {P : Program} {w : World} {ops : Array Oper} {rest : List Oper} {o : Oper} {a : Act} {Q : Exit → Act → World → Prop} (hgd : o.guard = none) (s x : Operand) (t : TypeId)
    (ho : o.op = .call { callee := .builtin .append, args := #[s, x], argTypes := #[t, t] })
    (i : TypeInfo) (z : Value) (bytes : Nat) (ht : P.underlying t = some (.slice ty)) (hi : P.info? ty = some i) (hz : i.zero = some z)
    (hsize : i.size = E.size) (hby : i.bytes = bytes) (hzs : z.cells.size = E.size) (hsz : 0 < E.size) {v : Value} {l : List α} {fp : List Nat} (hv : a.eval s = v) (hown : (sliceE E ty).ow w [v] l fp)
    {ys : List α} {css : List (List Value)} {fys : List (List Nat)} (hys : OwAll E w ys css fys) (hs : SrcS w E.size (a.eval x) ys.length css.flatten) (hd : (fp ++ fys.flatten).Nodup)
    (h63 : l.length + ys.length ≤ maxLen) (hbytes : (l.length + ys.length) * bytes ≤ 140737488355328)
    (h : ∀ v' w' fp', (sliceE E ty).ow w' [v'] (l ++ ys) fp' → fp'.Nodup → (∀ b, b ∈ fp' → b ∈ fp ∨ b ∈ fys.flatten ∨ w.heap.size ≤ b) → But fp w w' → wpList P ops Q rest (a.put o.dst v') w') : wpList P ops Q (o :: rest) a w := by
  obtain ⟨v', w', fp', hr, k1, k2, k3, k4, -⟩ := own_append (P := P) w t o.type i z bytes ht hi hz hsize hby hzs hsz hown (a.eval x) hys hs hd h63 hbytes
  refine wpList_plain hgd fun K hK => ?_
  unfold Oper.wp execOp
  simp only [ho, resolve, invoke, builtin, Sem.run_bind, Sem.run_pure, Result.andThen_ok, List.map_toArray, List.map_cons, List.map_nil, hv, hr]
  exact hK _ _ (h v' w' fp' k1 k2 k3 k4)

theorem SrcS.one {w : World} {size : Nat} {ad : Addr} {c : Nat} {cs : List Value} (hl : cs.length = size) (hc : ∀ j u, cs[j]? = some u → w.cell? (ad.add j) = some u) (h1 : ∀ u, u ∈ cs → u.oneCell' = true) : SrcS w size (.slice (some ad) 1 c) 1 [cs].flatten :=
  .inr ⟨ad, c, rfl, by simp [hl], by simpa using hc, by simpa using h1⟩

/-- What a slice of readable elements without blocks of their own yields. -/
theorem src_of_rd {α : Type} {E : Enc α} {ty : TypeId} {w : World} {B : Nat} {v : Value} {l : List α} (c : α → List Value) (inv : ∀ x cs, E.rd w B cs x → cs = c x ∧ E.ow w cs x []) (h1 : ∀ x u, u ∈ c x → u.oneCell' = true) (h : (sliceE E ty).rd w B [v] l) :
    ∃ css fys, OwAll E w l css fys ∧ fys.flatten = [] ∧ SrcS w E.size v l.length css.flatten := by
  obtain ⟨a, cap, hv, e1, e2, e3, e4⟩ := h
  obtain rfl : v = .slice a l.length cap := by simpa using hv
  have hall : ∀ x, x ∈ l → E.ow w (c x) x [] := by
    intro x hx
    obtain ⟨k, hk, rfl⟩ := List.getElem_of_mem hx
    obtain ⟨b, o, xs, -, -, hr, -⟩ := e4 k _ (List.getElem?_eq_getElem hk)
    obtain ⟨rfl, h⟩ := inv _ _ hr
    exact h
  have key : ∀ l : List α, (∀ x, x ∈ l → E.ow w (c x) x []) → OwAll E w l (l.map c) (l.map fun _ => []) := by
    intro l
    induction l with
    | nil => intro _; exact .nil
    | cons a l ih => intro h; exact .cons (h a (by simp)) (ih fun x hx => h x (by simp [hx]))
  refine ⟨l.map c, l.map fun _ => [], key l hall, by simp, ?_⟩
  have hlen : ∀ x, x ∈ l → (c x).length = E.size := fun x hx => E.rd_len (E.ow_rd (B := 0) (fun b hb => by cases hb) (hall x hx))
  rcases a with _ | ad
  · have : l = [] := List.eq_nil_of_length_eq_zero (by have := e3 rfl; omega)
    subst this
    exact .inl ⟨cap, rfl, rfl, rfl⟩
  · refine .inr ⟨ad, cap, rfl, ?_, ?_, ?_⟩
    · have := (key l hall).flat; exact this
    · intro j u hu
      have hj : j < (l.map c).flatten.length := (List.getElem?_eq_some_iff.1 hu).1
      have hfl := (key l hall).flat
      rw [hfl] at hj
      have hpos : 0 < E.size := by
        rcases Nat.eq_zero_or_pos E.size with h | h
        · rw [h, Nat.mul_zero] at hj; omega
        · exact h
      have hk : j / E.size < l.length := Nat.div_lt_of_lt_mul (by rw [Nat.mul_comm]; exact hj)
      obtain ⟨b, o, xs, ha, -, hr, hc⟩ := e4 (j / E.size) _ (List.getElem?_eq_getElem hk)
      obtain ⟨rfl, -⟩ := inv _ _ hr
      obtain rfl : ad = ⟨b, o, none⟩ := by simpa using ha
      have hno : ∀ b, b ∈ (l.map fun _ => ([] : List Nat)).flatten → b < w.heap.size := by
        have e : (l.map fun _ => ([] : List Nat)).flatten = [] := by simp
        rw [e]; intro b hb; cases hb
      obtain ⟨xs', f', q1, -, -, -, q5⟩ := (key l hall).rdAt (B := w.heap.size) hno (j / E.size) _ (List.getElem?_eq_getElem hk)
      have hxs : xs' = c l[j / E.size] := by
        rw [List.getElem?_map, List.getElem?_eq_getElem hk] at q1
        simpa using q1.symm
      subst hxs
      have hm : j % E.size < (c l[j / E.size]).length := by rw [hlen _ (List.getElem_mem hk)]; exact Nat.mod_lt _ hpos
      have e := q5 (j % E.size) _ (List.getElem?_eq_getElem hm)
      have hj2 : j / E.size * E.size + j % E.size = j := by rw [Nat.mul_comm]; exact Nat.div_add_mod j E.size
      rw [hj2, hu] at e
      have := hc (j % E.size) _ (List.getElem?_eq_getElem hm)
      rw [hj2] at this
      rw [Addr.add_lit, this]
      exact e.symm
    · intro u hu
      obtain ⟨cs, hcs, hu⟩ := List.mem_flatten.1 hu
      obtain ⟨x, hx, rfl⟩ := List.mem_map.1 hcs
      exact h1 x u hu

/-- append of one element. -/
theorem wpList_append_one {α : Type} {E : Enc α} {ty : TypeId} {P : Program} {w : World} {ops : Array Oper} {rest : List Oper} {o : Oper} {a : Act} {Q : Exit → Act → World → Prop} (hgd : o.guard = none) (s x : Operand) (t : TypeId)
    (ho : o.op = .call { callee := .builtin .append, args := #[s, x], argTypes := #[t, t] })
    (i : TypeInfo) (z : Value) (bytes : Nat) (ht : P.underlying t = some (.slice ty)) (hi : P.info? ty = some i) (hz : i.zero = some z)
    (hsize : i.size = E.size) (hby : i.bytes = bytes) (hzs : z.cells.size = E.size) (hsz : 0 < E.size) (hb64 : bytes ≤ 64) {v : Value} {l : List α} {fp : List Nat} (hv : a.eval s = v) (hown : (sliceE E ty).ow w [v] l fp) (hn : fp.Nodup)
    {g c : Nat} (hx : a.eval x = .slice (some ⟨g, 0, none⟩) 1 c) {y : α} {cs : List Value} {fy : List Nat} (hc : ∀ j u, cs[j]? = some u → w.cell? ⟨g, j, none⟩ = some u) (h1 : ∀ u, u ∈ cs → u.oneCell' = true) (hy : E.ow w cs y fy)
    (hny : fy.Nodup) (hd : ∀ b, b ∈ fy → b ∉ fp) (hlen : l.length ≤ 1000000000000)
    (h : ∀ v' w' fp', (sliceE E ty).ow w' [v'] (l ++ [y]) fp' → fp'.Nodup → (∀ b, b ∈ fp' → b ∈ fp ∨ b ∈ fy ∨ w.heap.size ≤ b) → But fp w w' → wpList P ops Q rest (a.put o.dst v') w') : wpList P ops Q (o :: rest) a w := by
  have hcl : cs.length = E.size := E.rd_len (E.rd_ow hy)
  have hb : (l.length + [y].length) * bytes ≤ 140737488355328 := by
    have : (l.length + [y].length) * bytes ≤ 1000000000001 * 64 := Nat.mul_le_mul (by simp; omega) hb64
    omega
  refine wpList_append_enc (E := E) (ty := ty) hgd s x t ho i z bytes ht hi hz hsize hby hzs hsz hv hown (OwAll.one hy) ?_ ?_ (by simp [maxLen]; omega) hb (fun v' w' fp' k1 k2 k3 k4 => h v' w' fp' k1 k2 (fun b hb => by have := k3 b hb; simpa using this) k4)
  · rw [hx]
    exact SrcS.one (ad := ⟨g, 0, none⟩) hcl (fun j u hu => by rw [Addr.add_lit]; simpa using hc j u hu) h1
  · rw [List.nodup_append]
    exact ⟨hn, by simpa using hny, fun p hp q hq e => hd q (by simpa using hq) (e ▸ hp)⟩

/-- A slice whose elements, of one cell each, have just been written into a block. -/
theorem ow_lit {α : Type} {E : Enc α} {ty : TypeId} {w : World} {g : Nat} {l : List α} (f : α → Value) (hE : E.size = 1) (hf : ∀ x, x ∈ l → E.ow w [f x] x []) (h : Blk w g (l.map f) ty) (hl : l.length ≤ maxLen) :
    (sliceE E ty).ow w [.slice (some ⟨g, 0, none⟩) l.length l.length] l [g] :=
  ow_flat (base := 0) f hE hf ⟨by simp, .inr ⟨g, l.length, (l.map f).toArray, rfl, Nat.zero_le _, h, Nat.le_refl _, hl, by simp, by rw [List.take_of_length_le] <;> simp⟩⟩

theorem ow_nil {α : Type} (E : Enc α) (ty : TypeId) (w : World) : (sliceE E ty).ow w [.slice none 0 0] [] [] := ⟨_, [], [], rfl, .nil, by simpa using World.ownsRow_nil w 0 ty E.size, rfl⟩

theorem Blk.set3 {w w' : World} {b : Nat} {cs : List Value} {ty : TypeId} (h : Blk w b cs ty) (hl : cs.length = 3) {v0 v1 v2 : Value} (hW : ((w.setCell ⟨b, 0, none⟩ v0).setCell ⟨b, 1, none⟩ v1).setCell ⟨b, 2, none⟩ v2 = w') :
    Blk w' b [v0, v1, v2] ty ∧ But [b] w w' := by
  subst hW
  refine ⟨?_, (((But.refl _ _).setCell (by simp) _).setCell (by simp) _).setCell (by simp) _⟩
  match cs, hl with
  | [_, _, _], _ => exact ((h.set 0 _).set 1 _).set 2 _

theorem Blk.set4 {w w' : World} {b : Nat} {cs : List Value} {ty : TypeId} (h : Blk w b cs ty) (hl : cs.length = 4) {v0 v1 v2 v3 : Value} (hW : (((w.setCell ⟨b, 0, none⟩ v0).setCell ⟨b, 1, none⟩ v1).setCell ⟨b, 2, none⟩ v2).setCell ⟨b, 3, none⟩ v3 = w') :
    Blk w' b [v0, v1, v2, v3] ty ∧ But [b] w w' := by
  subst hW
  refine ⟨?_, ((((But.refl _ _).setCell (by simp) _).setCell (by simp) _).setCell (by simp) _).setCell (by simp) _⟩
  match cs, hl with
  | [_, _, _, _], _ => exact (((h.set 0 _).set 1 _).set 2 _).set 3 _

theorem Enc.ow_set {α : Type} (E : Enc α) {w : World} {cs : List Value} {x : α} {fp : List Nat} (h : E.ow w cs x fp) {a : Addr} (ha : ∀ b, b ∈ fp → b ≠ a.block) (v : Value) : E.ow (w.setCell a v) cs x fp :=
  E.ow_frame (fun b hb => Below.heap_setCell _ _ _ _ (ha b hb)) h

theorem bd0 : (-9223372036854775808 : Int) ≤ 0 ∧ (0 : Int) ≤ 9223372036854775807 := by decide
theorem bd1 : (-9223372036854775808 : Int) ≤ 1 ∧ (1 : Int) ≤ 9223372036854775807 := by decide

theorem one_mem {v : Value} (h : v.oneCell' = true) : ∀ u, u ∈ [v] → u.oneCell' = true := by
  intro u hu
  have e : u = v := by simpa using hu
  rw [e]; exact h

/-- A new element that is itself a slice just written, stored in a block of one cell. -/
theorem lit_slice {α : Type} {E : Enc α} {ty tb : TypeId} (w : World) (l : List α) (f : α → Value) (hE : E.size = 1) (hf : ∀ (w : World) x, x ∈ l → E.ow w [f x] x []) (hl : l.length ≤ maxLen) {W : World}
    (hW : W = (w.alloc (.cells (l.map f).toArray ty)).alloc (.cells #[.slice (some ⟨w.heap.size, 0, none⟩) l.length l.length] tb)) :
    (sliceE E ty).ow W [.slice (some ⟨w.heap.size, 0, none⟩) l.length l.length] l [w.heap.size] ∧ (∀ j u, [Value.slice (some ⟨w.heap.size, 0, none⟩) l.length l.length][j]? = some u → W.cell? ⟨w.heap.size + 1, j, none⟩ = some u) ∧
      Below w.heap.size w W ∧ W.heap.size = w.heap.size + 1 + 1 := by
  obtain ⟨h0, h1, h2⟩ := blk2 hW.symm
  refine ⟨ow_lit f hE (hf W) (by simpa using h0) hl, fun j u hu => h1.cell j (by simpa using hu), h2, by rw [hW]; simp⟩

/-- A call that hands back a struct of new memory and a code. -/
abbrev MakesC {α : Type} (E : Enc α) (x : α × Int) (w : World) (e : Ending) (w' : World) : Prop :=
  ∃ cs fp, e = .returned (.tuple #[.agg cs.toArray, .int .i64 x.2]) ∧ E.ow w' cs x.1 fp ∧ fp.Nodup ∧ (∀ b, b ∈ fp → w.heap.size ≤ b) ∧ Below w.heap.size w w'

end Go.Proofs.YtodoghidckelcaaGreatDoor

/-
  append at the program's slice types (written by a program of this claim's own, gen_app.py).
-/
namespace Go.Proofs.YtodoghidckelcaaGreatDoor
open Go.RowKit

theorem inf_Int64S : (Tryz.prog.info? 2).map (fun i => (i.zero, i.size, i.bytes)) = some (some (.int .i64 0), 1, 8) := by kernel_rfl

theorem app1_Int64S {w : World} {ops : Array Oper} {rest : List Oper} {o : Oper} {a : Act} {Q : Exit → Act → World → Prop} (hgd : o.guard = none) (s x : Operand)
    (ho : o.op = .call { callee := .builtin .append, args := #[s, x], argTypes := #[49, 49] }) {v : Value} {l : List _} {fp : List Nat} (hv : a.eval s = v) (hown : (sliceE intE 2).ow w [v] l fp) (hn : fp.Nodup)
    {g c : Nat} (hx : a.eval x = .slice (some ⟨g, 0, none⟩) 1 c) {y : _} {cs : List Value} {fy : List Nat} (hc : ∀ j u, cs[j]? = some u → w.cell? ⟨g, j, none⟩ = some u) (h1 : ∀ u, u ∈ cs → u.oneCell' = true) (hy : (intE).ow w cs y fy)
    (hny : fy.Nodup) (hd : ∀ b, b ∈ fy → b ∉ fp) (hlen : l.length ≤ 1000000000000)
    (h : ∀ v' w' fp', (sliceE intE 2).ow w' [v'] (l ++ [y]) fp' → fp'.Nodup → (∀ b, b ∈ fp' → b ∈ fp ∨ b ∈ fy ∨ w.heap.size ≤ b) → But fp w w' → wpList Tryz.prog ops Q rest (a.put o.dst v') w') : wpList Tryz.prog ops Q (o :: rest) a w := by
  obtain ⟨i0, hi, hz0, hz1, hz2⟩ := info_parts inf_Int64S
  exact wpList_append_one (E := intE) (ty := 2) hgd s x _ ho i0 _ _ Tryz.underlying49 hi hz0 hz1 hz2 rfl (by decide) (by decide) hv hown hn hx hc h1 hy hny hd hlen h

theorem appS_Int64S {w : World} {ops : Array Oper} {rest : List Oper} {o : Oper} {a : Act} {Q : Exit → Act → World → Prop} (hgd : o.guard = none) (s x : Operand)
    (ho : o.op = .call { callee := .builtin .append, args := #[s, x], argTypes := #[49, 49] }) {v : Value} {l : List _} {fp : List Nat} (hv : a.eval s = v) (hown : (sliceE intE 2).ow w [v] l fp)
    {ys : List _} {css : List (List Value)} {fys : List (List Nat)} (hys : OwAll (intE) w ys css fys) (hs : SrcS w (intE).size (a.eval x) ys.length css.flatten) (hd : (fp ++ fys.flatten).Nodup) (hlen : l.length + ys.length ≤ 1000000000000)
    (h : ∀ v' w' fp', (sliceE intE 2).ow w' [v'] (l ++ ys) fp' → fp'.Nodup → (∀ b, b ∈ fp' → b ∈ fp ∨ b ∈ fys.flatten ∨ w.heap.size ≤ b) → But fp w w' → wpList Tryz.prog ops Q rest (a.put o.dst v') w') : wpList Tryz.prog ops Q (o :: rest) a w := by
  obtain ⟨i0, hi, hz0, hz1, hz2⟩ := info_parts inf_Int64S
  exact wpList_append_enc (E := intE) (ty := 2) hgd s x _ ho i0 _ _ Tryz.underlying49 hi hz0 hz1 hz2 rfl (by decide) hv hown hys hs hd (by simp only [maxLen]; omega) (by omega) h

theorem inf_BoolS : (Tryz.prog.info? 4).map (fun i => (i.zero, i.size, i.bytes)) = some (some (.bool false), 1, 1) := by kernel_rfl

theorem inf_StringS : (Tryz.prog.info? 9).map (fun i => (i.zero, i.size, i.bytes)) = some (some (.string ByteArray.empty), 1, 16) := by kernel_rfl

theorem app1_StringS {w : World} {ops : Array Oper} {rest : List Oper} {o : Oper} {a : Act} {Q : Exit → Act → World → Prop} (hgd : o.guard = none) (s x : Operand)
    (ho : o.op = .call { callee := .builtin .append, args := #[s, x], argTypes := #[33, 33] }) {v : Value} {l : List _} {fp : List Nat} (hv : a.eval s = v) (hown : (sliceE strE 9).ow w [v] l fp) (hn : fp.Nodup)
    {g c : Nat} (hx : a.eval x = .slice (some ⟨g, 0, none⟩) 1 c) {y : _} {cs : List Value} {fy : List Nat} (hc : ∀ j u, cs[j]? = some u → w.cell? ⟨g, j, none⟩ = some u) (h1 : ∀ u, u ∈ cs → u.oneCell' = true) (hy : (strE).ow w cs y fy)
    (hny : fy.Nodup) (hd : ∀ b, b ∈ fy → b ∉ fp) (hlen : l.length ≤ 1000000000000)
    (h : ∀ v' w' fp', (sliceE strE 9).ow w' [v'] (l ++ [y]) fp' → fp'.Nodup → (∀ b, b ∈ fp' → b ∈ fp ∨ b ∈ fy ∨ w.heap.size ≤ b) → But fp w w' → wpList Tryz.prog ops Q rest (a.put o.dst v') w') : wpList Tryz.prog ops Q (o :: rest) a w := by
  obtain ⟨i0, hi, hz0, hz1, hz2⟩ := info_parts inf_StringS
  exact wpList_append_one (E := strE) (ty := 9) hgd s x _ ho i0 _ _ Tryz.underlying33 hi hz0 hz1 hz2 rfl (by decide) (by decide) hv hown hn hx hc h1 hy hny hd hlen h

theorem appS_StringS {w : World} {ops : Array Oper} {rest : List Oper} {o : Oper} {a : Act} {Q : Exit → Act → World → Prop} (hgd : o.guard = none) (s x : Operand)
    (ho : o.op = .call { callee := .builtin .append, args := #[s, x], argTypes := #[33, 33] }) {v : Value} {l : List _} {fp : List Nat} (hv : a.eval s = v) (hown : (sliceE strE 9).ow w [v] l fp)
    {ys : List _} {css : List (List Value)} {fys : List (List Nat)} (hys : OwAll (strE) w ys css fys) (hs : SrcS w (strE).size (a.eval x) ys.length css.flatten) (hd : (fp ++ fys.flatten).Nodup) (hlen : l.length + ys.length ≤ 1000000000000)
    (h : ∀ v' w' fp', (sliceE strE 9).ow w' [v'] (l ++ ys) fp' → fp'.Nodup → (∀ b, b ∈ fp' → b ∈ fp ∨ b ∈ fys.flatten ∨ w.heap.size ≤ b) → But fp w w' → wpList Tryz.prog ops Q rest (a.put o.dst v') w') : wpList Tryz.prog ops Q (o :: rest) a w := by
  obtain ⟨i0, hi, hz0, hz1, hz2⟩ := info_parts inf_StringS
  exact wpList_append_enc (E := strE) (ty := 9) hgd s x _ ho i0 _ _ Tryz.underlying33 hi hz0 hz1 hz2 rfl (by decide) hv hown hys hs hd (by simp only [maxLen]; omega) (by omega) h

theorem inf_Int64SS : (Tryz.prog.info? 49).map (fun i => (i.zero, i.size, i.bytes)) = some (some (.slice none 0 0), 1, 24) := by kernel_rfl

theorem inf_StringSS : (Tryz.prog.info? 33).map (fun i => (i.zero, i.size, i.bytes)) = some (some (.slice none 0 0), 1, 24) := by kernel_rfl

theorem app1_StringSS {w : World} {ops : Array Oper} {rest : List Oper} {o : Oper} {a : Act} {Q : Exit → Act → World → Prop} (hgd : o.guard = none) (s x : Operand)
    (ho : o.op = .call { callee := .builtin .append, args := #[s, x], argTypes := #[25, 25] }) {v : Value} {l : List _} {fp : List Nat} (hv : a.eval s = v) (hown : (sliceE strsE 33).ow w [v] l fp) (hn : fp.Nodup)
    {g c : Nat} (hx : a.eval x = .slice (some ⟨g, 0, none⟩) 1 c) {y : _} {cs : List Value} {fy : List Nat} (hc : ∀ j u, cs[j]? = some u → w.cell? ⟨g, j, none⟩ = some u) (h1 : ∀ u, u ∈ cs → u.oneCell' = true) (hy : (strsE).ow w cs y fy)
    (hny : fy.Nodup) (hd : ∀ b, b ∈ fy → b ∉ fp) (hlen : l.length ≤ 1000000000000)
    (h : ∀ v' w' fp', (sliceE strsE 33).ow w' [v'] (l ++ [y]) fp' → fp'.Nodup → (∀ b, b ∈ fp' → b ∈ fp ∨ b ∈ fy ∨ w.heap.size ≤ b) → But fp w w' → wpList Tryz.prog ops Q rest (a.put o.dst v') w') : wpList Tryz.prog ops Q (o :: rest) a w := by
  obtain ⟨i0, hi, hz0, hz1, hz2⟩ := info_parts inf_StringSS
  exact wpList_append_one (E := strsE) (ty := 33) hgd s x _ ho i0 _ _ Tryz.underlying25 hi hz0 hz1 hz2 rfl (by decide) (by decide) hv hown hn hx hc h1 hy hny hd hlen h

theorem appS_StringSS {w : World} {ops : Array Oper} {rest : List Oper} {o : Oper} {a : Act} {Q : Exit → Act → World → Prop} (hgd : o.guard = none) (s x : Operand)
    (ho : o.op = .call { callee := .builtin .append, args := #[s, x], argTypes := #[25, 25] }) {v : Value} {l : List _} {fp : List Nat} (hv : a.eval s = v) (hown : (sliceE strsE 33).ow w [v] l fp)
    {ys : List _} {css : List (List Value)} {fys : List (List Nat)} (hys : OwAll (strsE) w ys css fys) (hs : SrcS w (strsE).size (a.eval x) ys.length css.flatten) (hd : (fp ++ fys.flatten).Nodup) (hlen : l.length + ys.length ≤ 1000000000000)
    (h : ∀ v' w' fp', (sliceE strsE 33).ow w' [v'] (l ++ ys) fp' → fp'.Nodup → (∀ b, b ∈ fp' → b ∈ fp ∨ b ∈ fys.flatten ∨ w.heap.size ≤ b) → But fp w w' → wpList Tryz.prog ops Q rest (a.put o.dst v') w') : wpList Tryz.prog ops Q (o :: rest) a w := by
  obtain ⟨i0, hi, hz0, hz1, hz2⟩ := info_parts inf_StringSS
  exact wpList_append_enc (E := strsE) (ty := 33) hgd s x _ ho i0 _ _ Tryz.underlying25 hi hz0 hz1 hz2 rfl (by decide) hv hown hys hs hd (by simp only [maxLen]; omega) (by omega) h

theorem inf_MoveS : (Tryz.prog.info? 54).map (fun i => (i.zero, i.size, i.bytes)) = some (some (.agg #[.int .i64 0, .int .i64 0]), 2, 16) := by kernel_rfl

theorem app1_MoveS {w : World} {ops : Array Oper} {rest : List Oper} {o : Oper} {a : Act} {Q : Exit → Act → World → Prop} (hgd : o.guard = none) (s x : Operand)
    (ho : o.op = .call { callee := .builtin .append, args := #[s, x], argTypes := #[52, 52] }) {v : Value} {l : List _} {fp : List Nat} (hv : a.eval s = v) (hown : (sliceE moveE 54).ow w [v] l fp) (hn : fp.Nodup)
    {g c : Nat} (hx : a.eval x = .slice (some ⟨g, 0, none⟩) 1 c) {y : _} {cs : List Value} {fy : List Nat} (hc : ∀ j u, cs[j]? = some u → w.cell? ⟨g, j, none⟩ = some u) (h1 : ∀ u, u ∈ cs → u.oneCell' = true) (hy : (moveE).ow w cs y fy)
    (hny : fy.Nodup) (hd : ∀ b, b ∈ fy → b ∉ fp) (hlen : l.length ≤ 1000000000000)
    (h : ∀ v' w' fp', (sliceE moveE 54).ow w' [v'] (l ++ [y]) fp' → fp'.Nodup → (∀ b, b ∈ fp' → b ∈ fp ∨ b ∈ fy ∨ w.heap.size ≤ b) → But fp w w' → wpList Tryz.prog ops Q rest (a.put o.dst v') w') : wpList Tryz.prog ops Q (o :: rest) a w := by
  obtain ⟨i0, hi, hz0, hz1, hz2⟩ := info_parts inf_MoveS
  exact wpList_append_one (E := moveE) (ty := 54) hgd s x _ ho i0 _ _ Tryz.underlying52 hi hz0 hz1 hz2 rfl (by decide) (by decide) hv hown hn hx hc h1 hy hny hd hlen h

theorem appS_MoveS {w : World} {ops : Array Oper} {rest : List Oper} {o : Oper} {a : Act} {Q : Exit → Act → World → Prop} (hgd : o.guard = none) (s x : Operand)
    (ho : o.op = .call { callee := .builtin .append, args := #[s, x], argTypes := #[52, 52] }) {v : Value} {l : List _} {fp : List Nat} (hv : a.eval s = v) (hown : (sliceE moveE 54).ow w [v] l fp)
    {ys : List _} {css : List (List Value)} {fys : List (List Nat)} (hys : OwAll (moveE) w ys css fys) (hs : SrcS w (moveE).size (a.eval x) ys.length css.flatten) (hd : (fp ++ fys.flatten).Nodup) (hlen : l.length + ys.length ≤ 1000000000000)
    (h : ∀ v' w' fp', (sliceE moveE 54).ow w' [v'] (l ++ ys) fp' → fp'.Nodup → (∀ b, b ∈ fp' → b ∈ fp ∨ b ∈ fys.flatten ∨ w.heap.size ≤ b) → But fp w w' → wpList Tryz.prog ops Q rest (a.put o.dst v') w') : wpList Tryz.prog ops Q (o :: rest) a w := by
  obtain ⟨i0, hi, hz0, hz1, hz2⟩ := info_parts inf_MoveS
  exact wpList_append_enc (E := moveE) (ty := 54) hgd s x _ ho i0 _ _ Tryz.underlying52 hi hz0 hz1 hz2 rfl (by decide) hv hown hys hs hd (by simp only [maxLen]; omega) (by omega) h

theorem inf_MoveSS : (Tryz.prog.info? 52).map (fun i => (i.zero, i.size, i.bytes)) = some (some (.slice none 0 0), 1, 24) := by kernel_rfl

theorem app1_MoveSS {w : World} {ops : Array Oper} {rest : List Oper} {o : Oper} {a : Act} {Q : Exit → Act → World → Prop} (hgd : o.guard = none) (s x : Operand)
    (ho : o.op = .call { callee := .builtin .append, args := #[s, x], argTypes := #[22, 22] }) {v : Value} {l : List _} {fp : List Nat} (hv : a.eval s = v) (hown : (sliceE movesE 52).ow w [v] l fp) (hn : fp.Nodup)
    {g c : Nat} (hx : a.eval x = .slice (some ⟨g, 0, none⟩) 1 c) {y : _} {cs : List Value} {fy : List Nat} (hc : ∀ j u, cs[j]? = some u → w.cell? ⟨g, j, none⟩ = some u) (h1 : ∀ u, u ∈ cs → u.oneCell' = true) (hy : (movesE).ow w cs y fy)
    (hny : fy.Nodup) (hd : ∀ b, b ∈ fy → b ∉ fp) (hlen : l.length ≤ 1000000000000)
    (h : ∀ v' w' fp', (sliceE movesE 52).ow w' [v'] (l ++ [y]) fp' → fp'.Nodup → (∀ b, b ∈ fp' → b ∈ fp ∨ b ∈ fy ∨ w.heap.size ≤ b) → But fp w w' → wpList Tryz.prog ops Q rest (a.put o.dst v') w') : wpList Tryz.prog ops Q (o :: rest) a w := by
  obtain ⟨i0, hi, hz0, hz1, hz2⟩ := info_parts inf_MoveSS
  exact wpList_append_one (E := movesE) (ty := 52) hgd s x _ ho i0 _ _ Tryz.underlying22 hi hz0 hz1 hz2 rfl (by decide) (by decide) hv hown hn hx hc h1 hy hny hd hlen h

theorem appS_MoveSS {w : World} {ops : Array Oper} {rest : List Oper} {o : Oper} {a : Act} {Q : Exit → Act → World → Prop} (hgd : o.guard = none) (s x : Operand)
    (ho : o.op = .call { callee := .builtin .append, args := #[s, x], argTypes := #[22, 22] }) {v : Value} {l : List _} {fp : List Nat} (hv : a.eval s = v) (hown : (sliceE movesE 52).ow w [v] l fp)
    {ys : List _} {css : List (List Value)} {fys : List (List Nat)} (hys : OwAll (movesE) w ys css fys) (hs : SrcS w (movesE).size (a.eval x) ys.length css.flatten) (hd : (fp ++ fys.flatten).Nodup) (hlen : l.length + ys.length ≤ 1000000000000)
    (h : ∀ v' w' fp', (sliceE movesE 52).ow w' [v'] (l ++ ys) fp' → fp'.Nodup → (∀ b, b ∈ fp' → b ∈ fp ∨ b ∈ fys.flatten ∨ w.heap.size ≤ b) → But fp w w' → wpList Tryz.prog ops Q rest (a.put o.dst v') w') : wpList Tryz.prog ops Q (o :: rest) a w := by
  obtain ⟨i0, hi, hz0, hz1, hz2⟩ := info_parts inf_MoveSS
  exact wpList_append_enc (E := movesE) (ty := 52) hgd s x _ ho i0 _ _ Tryz.underlying22 hi hz0 hz1 hz2 rfl (by decide) hv hown hys hs hd (by simp only [maxLen]; omega) (by omega) h

end Go.Proofs.YtodoghidckelcaaGreatDoor

/-
  Plain lemmas: all that a call holds of its own in one hypothesis ('Star': the blocks of its parts lie apart from each other), what each step does to it, and append (written in part by a program of this claim's own, gen_star.py).
-/
namespace Go.Proofs.YtodoghidckelcaaGreatDoor
open Go.RowKit

/-- No block in common. -/
def Dj (f h : List Nat) : Prop := ∀ b, b ∈ f → b ∉ h

theorem Dj.symm {f h : List Nat} (d : Dj f h) : Dj h f := fun b hb hf => d b hf hb
theorem Dj.nodup {f h : List Nat} (d : Dj f h) (nf : f.Nodup) (nh : h.Nodup) : (f ++ h).Nodup := by
  rw [List.nodup_append]
  exact ⟨nf, nh, fun a ha b hb e => d a ha (e ▸ hb)⟩

/-- A part: what holds of it in a world, with its blocks. -/
structure Ob where
  holds : World → List Nat → Prop
  frame : ∀ {w w' : World} {fp : List Nat}, (∀ b, b ∈ fp → w'.heap[b]? = w.heap[b]?) → holds w fp → holds w' fp

/-- A block with these cells. -/
def oB (b : Nat) (cs : List Value) (ty : TypeId) : Ob := ⟨fun w fp => Blk w b cs ty ∧ fp = [b], fun hf h => ⟨h.1.same (hf b (by rw [h.2]; simp)), h.2⟩⟩

/-- Cells that stand for a value of one's own. -/
def oE {α : Type} (E : Enc α) (cs : List Value) (a : α) : Ob := ⟨fun w fp => E.ow w cs a fp, fun hf h => E.ow_frame hf h⟩

/-- What a call that began in w0 holds of its own in w. -/
def Star (w0 w : World) (ps : List Ob) : Prop :=
  Below w0.heap.size w0 w ∧ ∃ fp : Nat → List Nat, (∀ i P, ps[i]? = some P → P.holds w (fp i) ∧ (fp i).Nodup ∧ ∀ b, b ∈ fp i → w0.heap.size ≤ b ∧ b < w.heap.size) ∧
    ∀ i j, i ≠ j → i < ps.length → j < ps.length → Dj (fp i) (fp j)

section
variable {w0 w w' : World} {ps : List Ob}

theorem Star.nil (w : World) : Star w w [] := ⟨Below.refl _ _, fun _ => [], fun i P h => by simp at h, fun i j _ hi => by simp at hi⟩

theorem Star.below (S : Star w0 w ps) : Below w0.heap.size w0 w := S.1

theorem Star.step (S : Star w0 w ps) (hb : Below w.heap.size w w') : Star w0 w' ps := by
  obtain ⟨B, fp, h, d⟩ := S
  refine ⟨B.trans (hb.mono B.size), fp, fun i P hP => ?_, d⟩
  obtain ⟨h1, h2, h3⟩ := h i P hP
  exact ⟨P.frame (fun b hm => hb.block b (h3 b hm).2) h1, h2, fun b hm => ⟨(h3 b hm).1, Nat.lt_of_lt_of_le (h3 b hm).2 hb.size⟩⟩

theorem Star.push (S : Star w0 w ps) {P : Ob} {f : List Nat} (hb : Below w.heap.size w w') (hP : P.holds w' f) (nd : f.Nodup) (lo : ∀ b, b ∈ f → w.heap.size ≤ b) (hi : ∀ b, b ∈ f → b < w'.heap.size) : Star w0 w' (P :: ps) := by
  obtain ⟨B, fp, h, d⟩ := S
  have hs := B.size
  refine ⟨B.trans (hb.mono hs), fun i => match i with | 0 => f | i + 1 => fp i, fun i Q hQ => ?_, fun i j hij hi hj => ?_⟩
  · cases i with
    | zero =>
      obtain rfl : P = Q := by simpa using hQ
      exact ⟨hP, nd, fun b hm => ⟨Nat.le_trans hs (lo b hm), hi b hm⟩⟩
    | succ i =>
      obtain ⟨h1, h2, h3⟩ := h i Q (by simpa using hQ)
      exact ⟨Q.frame (fun b hm => hb.block b (h3 b hm).2) h1, h2, fun b hm => ⟨(h3 b hm).1, Nat.lt_of_lt_of_le (h3 b hm).2 hb.size⟩⟩
  · have key : ∀ i, i < ps.length → Dj f (fp i) := by
      intro i hi b hb1 hb2
      have := lo b hb1
      have := ((h i _ (List.getElem?_eq_getElem hi)).2.2 b hb2).2
      omega
    cases i with
    | zero =>
      cases j with
      | zero => exact absurd rfl hij
      | succ j => exact key j (by simpa using hj)
    | succ i =>
      cases j with
      | zero => exact (key i (by simpa using hi)).symm
      | succ j => exact d i j (by omega) (by simpa using hi) (by simpa using hj)

theorem Star.alloc (S : Star w0 w ps) {cs : Array Value} {ty : TypeId} : Star w0 (w.alloc (.cells cs ty)) (oB w.heap.size cs.toList ty :: ps) :=
  S.push (f := [w.heap.size]) ((Below.refl _ _).alloc (Nat.le_refl _) _) ⟨Blk.new w cs ty, rfl⟩ (by simp) (fun b hb => by have e : b = w.heap.size := by simpa using hb
                                                                                                                          omega) (fun b hb => by have e : b = w.heap.size := by simpa using hb
                                                                                                                                                 rw [World.size_alloc]; omega)

/-- A call's result, of new memory. -/
theorem Star.made {α : Type} {E : Enc α} {cs : List Value} {a : α} {f : List Nat} (S : Star w0 w ps) (o : E.ow w' cs a f) (nd : f.Nodup) (lo : ∀ b, b ∈ f → w.heap.size ≤ b) (hb : Below w.heap.size w w') : Star w0 w' (oE E cs a :: ps) :=
  S.push (P := oE E cs a) hb o nd lo (E.ow_lt o)

theorem Star.flat {α : Type} {E : Enc α} {cs : List Value} {a : α} (S : Star w0 w ps) (o : E.ow w cs a []) : Star w0 w (oE E cs a :: ps) :=
  S.push (P := oE E cs a) (Below.refl _ _) o List.nodup_nil (fun b hb => by cases hb) (fun b hb => by cases hb)

/-- Some of the parts, in another order. -/
theorem Star.sel (S : Star w0 w ps) (is : List Nat) (hn : is.Nodup := by decide) (hl : ∀ i, i ∈ is → i < ps.length := by simp) : Star w0 w (is.filterMap fun i => ps[i]?) := by
  obtain ⟨B, fp, h, d⟩ := S
  have hf : ∀ is : List Nat, (∀ i, i ∈ is → i < ps.length) → (is.filterMap fun i => ps[i]?).length = is.length ∧ ∀ k : Nat, (is.filterMap fun i => ps[i]?)[k]? = (is[k]?).bind fun i => ps[i]? := by
    intro is
    induction is with
    | nil => intro _; exact ⟨rfl, fun k => by simp⟩
    | cons i is ih =>
      intro hl
      obtain ⟨i1, i2⟩ := ih (fun j hj => hl j (by simp [hj]))
      have hi := hl i (by simp)
      rw [List.filterMap_cons, List.getElem?_eq_getElem hi]
      refine ⟨by simp [i1], fun k => ?_⟩
      cases k with
      | zero => simp [List.getElem?_eq_getElem hi]
      | succ k => simpa using i2 k
  obtain ⟨e1, e2⟩ := hf is hl
  refine ⟨B, fun k => fp (is[k]?.getD 0), fun k P hP => ?_, fun i j hij hi hj => ?_⟩
  · rw [e2] at hP
    cases hk : is[k]? with
    | none => rw [hk] at hP; cases hP
    | some i => rw [hk] at hP; simp only [hk, Option.getD_some]; exact h i P hP
  · rw [e1] at hi hj
    have hi' := hl _ (List.getElem_mem hi)
    have hj' := hl _ (List.getElem_mem hj)
    show Dj (fp (is[i]?.getD 0)) (fp (is[j]?.getD 0))
    rw [List.getElem?_eq_getElem hi, List.getElem?_eq_getElem hj]
    refine d _ _ (fun e => hij ?_) hi' hj'
    have hp := List.pairwise_iff_getElem.1 hn
    rcases Nat.lt_trichotomy i j with hlt | hlt | hlt
    · exact absurd (by simpa using e) (hp i j hi hj hlt)
    · exact hlt
    · exact absurd (by simpa using e.symm) (hp j i hj hi hlt)

/-- One part turns into another; all others are as they were. -/
theorem Star.upd {P P' : Ob} (S : Star w0 w (P :: ps))
    (h : ∀ f, P.holds w f → f.Nodup → (∀ b, b ∈ f → b < w.heap.size) → ∃ f', P'.holds w' f' ∧ f'.Nodup ∧ (∀ b, b ∈ f' → b ∈ f ∨ w.heap.size ≤ b) ∧ (∀ b, b ∈ f' → b < w'.heap.size) ∧ But f w w') : Star w0 w' (P' :: ps) := by
  obtain ⟨B, fp, hh, d⟩ := S
  obtain ⟨p1, p2, p3⟩ := hh 0 P rfl
  obtain ⟨f', q1, q2, q3, q4, bt⟩ := h (fp 0) p1 p2 (fun b hb => (p3 b hb).2)
  have hs := B.size
  have hB : Below w0.heap.size w0 w' := B.trans (bt.below (fun b hb => (p3 b hb).1) hs)
  have hd0 : ∀ i, i < ps.length → Dj f' (fp (i + 1)) := by
    intro i hi b hb1 hb2
    rcases q3 b hb1 with h1 | h1
    · exact d 0 (i + 1) (by omega) (by simp) (by simpa using hi) b h1 hb2
    · have := ((hh (i + 1) _ (by rw [List.getElem?_cons_succ]; exact List.getElem?_eq_getElem hi)).2.2 b hb2).2
      omega
  refine ⟨hB, fun i => match i with | 0 => f' | i + 1 => fp (i + 1), fun i Q hQ => ?_, fun i j hij hi hj => ?_⟩
  · cases i with
    | zero =>
      obtain rfl : P' = Q := by simpa using hQ
      refine ⟨q1, q2, fun b hm => ⟨?_, q4 b hm⟩⟩
      rcases q3 b hm with h1 | h1
      · exact (p3 b h1).1
      · omega
    | succ i =>
      have hQ' : ps[i]? = some Q := by simpa using hQ
      obtain ⟨h1, h2, h3⟩ := hh (i + 1) Q hQ'
      have hil := (List.getElem?_eq_some_iff.1 hQ').1
      refine ⟨Q.frame (fun b hm => bt.block b (h3 b hm).2 (fun hf => ?_)) h1, h2, fun b hm => ⟨(h3 b hm).1, Nat.lt_of_lt_of_le (h3 b hm).2 bt.size⟩⟩
      exact d 0 (i + 1) (by omega) (by simp) (by simpa using hil) b hf hm
  · cases i with
    | zero =>
      cases j with
      | zero => exact absurd rfl hij
      | succ j => exact hd0 j (by simpa using hj)
    | succ i =>
      cases j with
      | zero => exact (hd0 i (by simpa using hi)).symm
      | succ j => exact d (i + 1) (j + 1) (by omega) hi hj

/-- Two parts turn into one. -/
theorem Star.join {P Q R : Ob} (S : Star w0 w (P :: Q :: ps)) (h : ∀ f g, P.holds w f → Q.holds w g → R.holds w (f ++ g)) : Star w0 w (R :: ps) := by
  obtain ⟨B, fp, hh, d⟩ := S
  obtain ⟨p1, p2, p3⟩ := hh 0 P rfl
  obtain ⟨q1, q2, q3⟩ := hh 1 Q rfl
  have hd0 : ∀ i, i < ps.length → Dj (fp 0 ++ fp 1) (fp (i + 2)) := by
    intro i hi b hb1 hb2
    rcases List.mem_append.1 hb1 with h1 | h1
    · exact d 0 (i + 2) (by omega) (by simp) (by simpa using hi) b h1 hb2
    · exact d 1 (i + 2) (by omega) (by simp) (by simpa using hi) b h1 hb2
  refine ⟨B, fun i => match i with | 0 => fp 0 ++ fp 1 | i + 1 => fp (i + 2), fun i Q hQ => ?_, fun i j hij hi hj => ?_⟩
  · cases i with
    | zero =>
      obtain rfl : R = Q := by simpa using hQ
      refine ⟨h _ _ p1 q1, (d 0 1 (by omega) (by simp) (by simp)).nodup p2 q2, fun b hm => ?_⟩
      rcases List.mem_append.1 hm with h1 | h1
      · exact p3 b h1
      · exact q3 b h1
    | succ i => exact hh (i + 2) Q (by simpa using hQ)
  · cases i with
    | zero =>
      cases j with
      | zero => exact absurd rfl hij
      | succ j => exact hd0 j (by simpa using hj)
    | succ i =>
      cases j with
      | zero => exact (hd0 i (by simpa using hi)).symm
      | succ j => exact d (i + 2) (j + 2) (by omega) (by simpa using hi) (by simpa using hj)

theorem Star.set {b : Nat} {cs : List Value} {ty : TypeId} (S : Star w0 w (oB b cs ty :: ps)) (i : Nat) (v : Value) : Star w0 (w.setCell ⟨b, i, none⟩ v) (oB b (cs.set i v) ty :: ps) :=
  S.upd fun f hf _ hl => ⟨f, ⟨hf.1.set i v, hf.2⟩, by rw [hf.2]; simp, fun b hb => .inl hb, fun b hb => by simpa using hl b hb, by rw [hf.2]; exact (But.refl _ _).setCell (by simp) _⟩

theorem Star.set4 {b : Nat} {cs : List Value} {ty : TypeId} {v0 v1 v2 v3 : Value} (S : Star w0 w (oB b cs ty :: ps)) (hl : cs.length = 4) (hW : (((w.setCell ⟨b, 0, none⟩ v0).setCell ⟨b, 1, none⟩ v1).setCell ⟨b, 2, none⟩ v2).setCell ⟨b, 3, none⟩ v3 = w') :
    Star w0 w' (oB b [v0, v1, v2, v3] ty :: ps) := by
  subst hW
  match cs, hl with
  | [_, _, _, _], _ => exact (((S.set 0 v0).set 1 v1).set 2 v2).set 3 v3

theorem Star.set3 {b : Nat} {cs : List Value} {ty : TypeId} {v0 v1 v2 : Value} (S : Star w0 w (oB b cs ty :: ps)) (hl : cs.length = 3) (hW : ((w.setCell ⟨b, 0, none⟩ v0).setCell ⟨b, 1, none⟩ v1).setCell ⟨b, 2, none⟩ v2 = w') :
    Star w0 w' (oB b [v0, v1, v2] ty :: ps) := by
  subst hW
  match cs, hl with
  | [_, _, _], _ => exact ((S.set 0 v0).set 1 v1).set 2 v2

theorem Star.blk (S : Star w0 w ps) (n : Nat) {b : Nat} {cs : List Value} {ty : TypeId} (h : ps[n]? = some (oB b cs ty)) : Blk w b cs ty := by
  obtain ⟨_, fp, hh, _⟩ := S
  exact (hh n _ h).1.1

theorem Star.own (S : Star w0 w ps) (n : Nat) {α : Type} {E : Enc α} {cs : List Value} {a : α} (h : ps[n]? = some (oE E cs a)) : ∃ f, E.ow w cs a f := by
  obtain ⟨_, fp, hh, _⟩ := S
  exact ⟨fp n, (hh n _ h).1⟩

theorem Star.rd (S : Star w0 w ps) (n : Nat) {α : Type} {E : Enc α} {cs : List Value} {a : α} (h : ps[n]? = some (oE E cs a)) : E.rd w w.heap.size cs a := by
  obtain ⟨f, o⟩ := S.own n h
  exact E.rd_ow o

theorem Star.slc (S : Star w0 w ps) (n : Nat) {α : Type} {E : Enc α} {t : TypeId} {v : Value} {a : List α} (h : ps[n]? = some (oE (sliceE E t) [v] a)) : ∃ sa sn sc, v = .slice sa sn sc := by
  obtain ⟨f, o⟩ := S.own n h
  exact ow_slice o

/-- What has just been written into a block, as a slice. -/
theorem Star.lit {α : Type} {E : Enc α} {ty : TypeId} {g : Nat} {vs : List Value} (S : Star w0 w (oB g vs ty :: ps)) (l : List α) (f : α → Value) (hv : vs = l.map f) (hE : E.size = 1) (hf : ∀ x, x ∈ l → E.ow w [f x] x []) (hl : l.length ≤ maxLen) :
    Star w0 w (oE (sliceE E ty) [.slice (some ⟨g, 0, none⟩) l.length l.length] l :: ps) :=
  S.upd fun q hq _ hlt => ⟨q, by rw [hq.2]; exact ow_lit f hE hf (hv ▸ hq.1) hl, by rw [hq.2]; simp, fun b hb => .inl hb, hlt, But.refl _ _⟩

theorem Star.lit0 {α : Type} {E : Enc α} {ty : TypeId} {g : Nat} (S : Star w0 w (oB g [] ty :: ps)) : Star w0 w (oE (sliceE E ty) [.slice (some ⟨g, 0, none⟩) 0 0] ([] : List α) :: ps) :=
  S.upd fun q hq _ hlt => ⟨q, by rw [hq.2]; exact ⟨_, [], [], rfl, .nil, ⟨by simp, .inr ⟨g, 0, #[], rfl, Nat.zero_le _, hq.1, Nat.le_refl _, Nat.zero_le _, by simp, by simp⟩⟩, by simp [Value.ownBlock]⟩, by rw [hq.2]; simp, fun b hb => .inl hb, hlt, But.refl _ _⟩

theorem Star.int (S : Star w0 w ps) {x : Int} (h : -9223372036854775808 ≤ x ∧ x ≤ 9223372036854775807) : Star w0 w (oE intE [Value.int .i64 x] x :: ps) := S.flat ⟨⟨rfl, h⟩, rfl⟩
theorem Star.bool (S : Star w0 w ps) {x : Bool} : Star w0 w (oE boolE [Value.bool x] x :: ps) := S.flat ⟨rfl, rfl⟩
theorem Star.str (S : Star w0 w ps) {x : ByteArray} (h : x.size ≤ maxLen) : Star w0 w (oE strE [Value.string x] x :: ps) := S.flat ⟨⟨rfl, h⟩, rfl⟩
theorem Star.move (S : Star w0 w ps) {x y : Int} (h : -9223372036854775808 ≤ x ∧ x ≤ 9223372036854775807) (k : -9223372036854775808 ≤ y ∧ y ≤ 9223372036854775807) : Star w0 w (oE moveE [Value.int .i64 x, Value.int .i64 y] ⟨x, y⟩ :: ps) :=
  S.flat ⟨[_], [_], [], [], rfl, rfl, ⟨⟨rfl, h⟩, rfl⟩, ⟨⟨rfl, k⟩, rfl⟩⟩
theorem Star.pmove (S : Star w0 w ps) {x y z : Int} (h : -9223372036854775808 ≤ x ∧ x ≤ 9223372036854775807) (k : -9223372036854775808 ≤ y ∧ y ≤ 9223372036854775807) (m : -9223372036854775808 ≤ z ∧ z ≤ 9223372036854775807) :
    Star w0 w (oE pmoveE [Value.int .i64 x, Value.int .i64 y, Value.int .i64 z] ⟨x, y, z⟩ :: ps) :=
  S.flat ⟨[_], [_, _], [], [], rfl, rfl, ⟨⟨rfl, h⟩, rfl⟩, ⟨[_], [_], [], [], rfl, rfl, ⟨⟨rfl, k⟩, rfl⟩, ⟨⟨rfl, m⟩, rfl⟩⟩⟩
theorem Star.nils {α : Type} (E : Enc α) (ty : TypeId) (S : Star w0 w ps) : Star w0 w (oE (sliceE E ty) [.slice none 0 0] [] :: ps) := S.flat (ow_nil E ty w)

/-- Two fields side by side. -/
theorem Star.pair {α β : Type} {E : Enc α} {F : Enc β} {c1 c2 : List Value} {x : α} {y : β} (S : Star w0 w (oE E c1 x :: oE F c2 y :: ps)) : Star w0 w (oE (pairE E F) (c1 ++ c2) (x, y) :: ps) :=
  S.join fun f g h1 h2 => ⟨c1, c2, f, g, rfl, rfl, h1, h2⟩

theorem Star.via {α β : Type} {E : Enc β} {F : α → β} {cs : List Value} {y : β} (S : Star w0 w (oE E cs y :: ps)) (x : α) (h : F x = y) : Star w0 w (oE (viaE E F) cs x :: ps) :=
  S.upd fun q hq hn hlt => ⟨q, (by show E.ow w cs (F x) q; rw [h]; exact hq), hn, fun b hb => .inl hb, hlt, But.refl _ _⟩

/-- What is handed back. -/
theorem Star.out {α : Type} {E : Enc α} {cs : List Value} {a : α} (S : Star w0 w (oE E cs a :: ps)) : ∃ f, E.ow w cs a f ∧ f.Nodup ∧ ∀ b, b ∈ f → w0.heap.size ≤ b := by
  obtain ⟨_, fp, hh, _⟩ := S
  obtain ⟨h1, h2, h3⟩ := hh 0 _ rfl
  exact ⟨_, h1, h2, fun b hb => (h3 b hb).1⟩

theorem Star.done {α : Type} {E : Enc α} {cs : List Value} {x : α × Int} (S : Star w0 w (oE E cs x.1 :: ps)) : MakesC E x w0 (.returned (.tuple #[.agg cs.toArray, .int .i64 x.2])) w := by
  obtain ⟨f, h1, h2, h3⟩ := S.out
  exact ⟨cs, f, rfl, h1, h2, h3, S.below⟩

theorem Star.done1 {α : Type} {E : Enc α} {v : Value} {x : α} (S : Star w0 w (oE E [v] x :: ps)) : Makes E id x w0 (.returned v) w := by
  obtain ⟨f, h1, h2, h3⟩ := S.out
  exact ⟨v, f, rfl, h1, h2, h3, S.below⟩
end

theorem cell_a1 {w : World} {cs : List Value} {ty : TypeId} : ∀ j u, cs[j]? = some u → (w.alloc (.cells cs.toArray ty)).cell? ⟨w.heap.size, j, none⟩ = some u := fun j _ hu => (Blk.new w cs.toArray ty).cell j (by simpa using hu)
theorem cell_a2 {w : World} {o : Obj} {cs : List Value} {ty : TypeId} : ∀ j u, cs[j]? = some u → ((w.alloc o).alloc (.cells cs.toArray ty)).cell? ⟨w.heap.size + 1, j, none⟩ = some u := fun j _ hu => by
  have := (Blk.new (w.alloc o) cs.toArray ty).cell j (v := _) (by simpa using hu)
  simpa using this
theorem cell_a3 {w : World} {o p : Obj} {cs : List Value} {ty : TypeId} : ∀ j u, cs[j]? = some u → (((w.alloc o).alloc p).alloc (.cells cs.toArray ty)).cell? ⟨w.heap.size + 1 + 1, j, none⟩ = some u := fun j _ hu => by
  have := (Blk.new ((w.alloc o).alloc p) cs.toArray ty).cell j (v := _) (by simpa using hu)
  simpa using this

theorem cell_s1 {w : World} {a : Addr} {v : Value} {cs : List Value} {ty : TypeId} : ∀ j u, cs[j]? = some u → ((w.setCell a v).alloc (.cells cs.toArray ty)).cell? ⟨w.heap.size, j, none⟩ = some u := fun j _ hu => by
  have := (Blk.new (w.setCell a v) cs.toArray ty).cell j (v := _) (by simpa using hu)
  simpa using this

theorem int_in (x : Int) (h : -9223372036854775808 ≤ x ∧ x ≤ 9223372036854775807) (w : World) : ∀ y, y ∈ [x] → intE.ow w [Value.int .i64 y] y [] := fun y hy => by
  have e : y = x := by simpa using hy
  subst e; exact ⟨⟨rfl, h⟩, rfl⟩
theorem int_in2 (x y : Int) (h : -9223372036854775808 ≤ x ∧ x ≤ 9223372036854775807) (k : -9223372036854775808 ≤ y ∧ y ≤ 9223372036854775807) (w : World) : ∀ z, z ∈ [x, y] → intE.ow w [Value.int .i64 z] z [] := fun z hz => by
  rcases List.mem_cons.1 hz with e | e
  · subst e; exact ⟨⟨rfl, h⟩, rfl⟩
  · have e : z = y := by simpa using e
    subst e; exact ⟨⟨rfl, k⟩, rfl⟩

theorem one_mem2 {v u : Value} (h : v.oneCell' = true) (k : u.oneCell' = true) : ∀ x, x ∈ [v, u] → x.oneCell' = true := by
  intro x hx
  rcases List.mem_cons.1 hx with e | e
  · rw [e]; exact h
  · exact one_mem k x e
theorem one_mem3 {v u t : Value} (h : v.oneCell' = true) (k : u.oneCell' = true) (m : t.oneCell' = true) : ∀ x, x ∈ [v, u, t] → x.oneCell' = true := by
  intro x hx
  rcases List.mem_cons.1 hx with e | e
  · rw [e]; exact h
  · exact one_mem2 k m x e

theorem take_range_map {α : Type} (f : Nat → α) (n k : Nat) (h : k < n) : ((List.range n).map f).take (k + 1) = ((List.range n).map f).take k ++ [f k] := by
  rw [List.take_succ_eq_append_getElem (by simpa using h)]
  simp

theorem take_range_all {α : Type} (f : Nat → α) (n : Nat) : ((List.range n).map f).take n = (List.range n).map f := List.take_of_length_le (by simp)

theorem take_range_len {α : Type} (f : Nat → α) (n k : Nat) (h : k ≤ n) : (((List.range n).map f).take k).length = k := by simp; omega

theorem take_map_succ {α β : Type} (d : α) (f : α → β) (l : List α) (k : Nat) (h : k < l.length) : (l.take (k + 1)).map f = (l.take k).map f ++ [f (l[k]?.getD d)] := by
  rw [List.take_succ_eq_append_getElem h, List.map_append]
  simp [List.getElem?_eq_getElem h]

theorem sum_map_le {α : Type} (f : α → Nat) (c : Nat) (l : List α) (h : ∀ x, x ∈ l → f x ≤ c) : (l.map f).sum ≤ l.length * c := by
  induction l with
  | nil => simp
  | cons a l ih =>
    rw [List.map_cons, List.sum_cons, List.length_cons, Nat.succ_mul]
    have := h a (by simp); have := ih (fun x hx => h x (by simp [hx])); omega

/-- append of one element, itself a part, to a slice of Int. -/
theorem st1_Int64S {w0 w : World} {ps : List Ob} {ops : Array Oper} {rest : List Oper} {o : Oper} {a : Act} {Q : Exit → Act → World → Prop} {s x : Operand} {v : Value} {l : List (Int)} {b c : Nat} {y : Int} {cs : List Value}
    (S : Star w0 w (oE (sliceE intE 2) [v] l :: oE intE cs y :: ps)) (hgd : o.guard = none)
    (ho : o.op = .call { callee := .builtin .append, args := #[s, x], argTypes := #[49, 49] }) (hv : a.eval s = v)
    (hx : a.eval x = .slice (some ⟨b, 0, none⟩) 1 c) (hc : ∀ j u, cs[j]? = some u → w.cell? ⟨b, j, none⟩ = some u) (h1 : ∀ u, u ∈ cs → u.oneCell' = true) (hlen : l.length ≤ 1000000000000)
    (h : ∀ sa sn sc w', Star w0 w' (oE (sliceE intE 2) [.slice sa sn sc] (l ++ [y]) :: ps) → wpList Tryz.prog ops Q rest (a.put o.dst (.slice sa sn sc)) w') : wpList Tryz.prog ops Q (o :: rest) a w := by
  obtain ⟨B, fp, hh, d⟩ := S
  obtain ⟨p1, p2, p3⟩ := hh 0 _ rfl
  obtain ⟨q1, q2, q3⟩ := hh 1 _ rfl
  have d01 := d 1 0 (by omega) (by simp) (by simp)
  refine app1_Int64S hgd s x ho hv p1 p2 hx hc h1 q1 q2 d01 hlen (fun v' w' fp' k1 k2 k3 k4 => ?_)
  obtain ⟨sa, sn, sc, rfl⟩ := ow_slice k1
  refine h sa sn sc w' ⟨B.trans (k4.below (fun b hb => (p3 b hb).1) B.size), fun i => match i with | 0 => fp' | i + 1 => fp (i + 2), fun i Q hQ => ?_, fun i j hij hi hj => ?_⟩
  · cases i with
    | zero =>
      obtain rfl : _ = Q := by simpa using hQ
      refine ⟨k1, k2, fun b hm => ⟨?_, Enc.ow_lt _ k1 b hm⟩⟩
      rcases k3 b hm with h1 | h1 | h1
      · exact (p3 b h1).1
      · exact (q3 b h1).1
      · have := B.size; omega
    | succ i =>
      have hQ' : ps[i]? = some Q := by simpa using hQ
      obtain ⟨h1, h2, h3⟩ := hh (i + 2) Q hQ'
      have hil := (List.getElem?_eq_some_iff.1 hQ').1
      refine ⟨Q.frame (fun b hm => k4.block b (h3 b hm).2 (fun hf => ?_)) h1, h2, fun b hm => ⟨(h3 b hm).1, Nat.lt_of_lt_of_le (h3 b hm).2 k4.size⟩⟩
      exact d 0 (i + 2) (by omega) (by simp) (by simpa using hil) b hf hm
  · have hd0 : ∀ i, i < ps.length → Dj fp' (fp (i + 2)) := by
      intro i hi b hb1 hb2
      rcases k3 b hb1 with h1 | h1 | h1
      · exact d 0 (i + 2) (by omega) (by simp) (by simpa using hi) b h1 hb2
      · exact d 1 (i + 2) (by omega) (by simp) (by simpa using hi) b h1 hb2
      · have := ((hh (i + 2) _ (by rw [List.getElem?_cons_succ, List.getElem?_cons_succ]; exact List.getElem?_eq_getElem hi)).2.2 b hb2).2
        omega
    cases i with
    | zero =>
      cases j with
      | zero => exact absurd rfl hij
      | succ j => exact hd0 j (by simpa using hj)
    | succ i =>
      cases j with
      | zero => exact (hd0 i (by simpa using hi)).symm
      | succ j => exact d (i + 2) (j + 2) (by omega) (by simpa using hi) (by simpa using hj)

/-- append of several elements that lead nowhere. -/
theorem stS_Int64S {w0 w : World} {ps : List Ob} {ops : Array Oper} {rest : List Oper} {o : Oper} {a : Act} {Q : Exit → Act → World → Prop} {s x : Operand} {v : Value} {l : List (Int)} {ys : List (Int)} {css : List (List Value)} {fys : List (List Nat)}
    (S : Star w0 w (oE (sliceE intE 2) [v] l :: ps)) (hgd : o.guard = none)
    (ho : o.op = .call { callee := .builtin .append, args := #[s, x], argTypes := #[49, 49] }) (hv : a.eval s = v)
    (hys : OwAll (intE) w ys css fys) (hfy : fys.flatten = []) (hs : SrcS w (intE).size (a.eval x) ys.length css.flatten) (hlen : l.length + ys.length ≤ 1000000000000)
    (h : ∀ sa sn sc w', Star w0 w' (oE (sliceE intE 2) [.slice sa sn sc] (l ++ ys) :: ps) → wpList Tryz.prog ops Q rest (a.put o.dst (.slice sa sn sc)) w') : wpList Tryz.prog ops Q (o :: rest) a w := by
  obtain ⟨B, fp, hh, d⟩ := S
  obtain ⟨p1, p2, p3⟩ := hh 0 _ rfl
  refine appS_Int64S hgd s x ho hv p1 hys hs (by rw [hfy, List.append_nil]; exact p2) hlen (fun v' w' fp' k1 k2 k3 k4 => ?_)
  rw [hfy] at k3
  obtain ⟨sa, sn, sc, rfl⟩ := ow_slice k1
  refine h sa sn sc w' ⟨B.trans (k4.below (fun b hb => (p3 b hb).1) B.size), fun i => match i with | 0 => fp' | i + 1 => fp (i + 1), fun i Q hQ => ?_, fun i j hij hi hj => ?_⟩
  · cases i with
    | zero =>
      obtain rfl : _ = Q := by simpa using hQ
      refine ⟨k1, k2, fun b hm => ⟨?_, Enc.ow_lt _ k1 b hm⟩⟩
      rcases k3 b hm with h1 | h1 | h1
      · exact (p3 b h1).1
      · cases h1
      · have := B.size; omega
    | succ i =>
      have hQ' : ps[i]? = some Q := by simpa using hQ
      obtain ⟨h1, h2, h3⟩ := hh (i + 1) Q hQ'
      have hil := (List.getElem?_eq_some_iff.1 hQ').1
      refine ⟨Q.frame (fun b hm => k4.block b (h3 b hm).2 (fun hf => ?_)) h1, h2, fun b hm => ⟨(h3 b hm).1, Nat.lt_of_lt_of_le (h3 b hm).2 k4.size⟩⟩
      exact d 0 (i + 1) (by omega) (by simp) (by simpa using hil) b hf hm
  · have hd0 : ∀ i, i < ps.length → Dj fp' (fp (i + 1)) := by
      intro i hi b hb1 hb2
      rcases k3 b hb1 with h1 | h1 | h1
      · exact d 0 (i + 1) (by omega) (by simp) (by simpa using hi) b h1 hb2
      · cases h1
      · have := ((hh (i + 1) _ (by rw [List.getElem?_cons_succ]; exact List.getElem?_eq_getElem hi)).2.2 b hb2).2
        omega
    cases i with
    | zero =>
      cases j with
      | zero => exact absurd rfl hij
      | succ j => exact hd0 j (by simpa using hj)
    | succ i =>
      cases j with
      | zero => exact (hd0 i (by simpa using hi)).symm
      | succ j => exact d (i + 1) (j + 1) (by omega) (by simpa using hi) (by simpa using hj)

/-- append of one element, itself a part, to a slice of ByteArray. -/
theorem st1_StringS {w0 w : World} {ps : List Ob} {ops : Array Oper} {rest : List Oper} {o : Oper} {a : Act} {Q : Exit → Act → World → Prop} {s x : Operand} {v : Value} {l : List (ByteArray)} {b c : Nat} {y : ByteArray} {cs : List Value}
    (S : Star w0 w (oE (sliceE strE 9) [v] l :: oE strE cs y :: ps)) (hgd : o.guard = none)
    (ho : o.op = .call { callee := .builtin .append, args := #[s, x], argTypes := #[33, 33] }) (hv : a.eval s = v)
    (hx : a.eval x = .slice (some ⟨b, 0, none⟩) 1 c) (hc : ∀ j u, cs[j]? = some u → w.cell? ⟨b, j, none⟩ = some u) (h1 : ∀ u, u ∈ cs → u.oneCell' = true) (hlen : l.length ≤ 1000000000000)
    (h : ∀ sa sn sc w', Star w0 w' (oE (sliceE strE 9) [.slice sa sn sc] (l ++ [y]) :: ps) → wpList Tryz.prog ops Q rest (a.put o.dst (.slice sa sn sc)) w') : wpList Tryz.prog ops Q (o :: rest) a w := by
  obtain ⟨B, fp, hh, d⟩ := S
  obtain ⟨p1, p2, p3⟩ := hh 0 _ rfl
  obtain ⟨q1, q2, q3⟩ := hh 1 _ rfl
  have d01 := d 1 0 (by omega) (by simp) (by simp)
  refine app1_StringS hgd s x ho hv p1 p2 hx hc h1 q1 q2 d01 hlen (fun v' w' fp' k1 k2 k3 k4 => ?_)
  obtain ⟨sa, sn, sc, rfl⟩ := ow_slice k1
  refine h sa sn sc w' ⟨B.trans (k4.below (fun b hb => (p3 b hb).1) B.size), fun i => match i with | 0 => fp' | i + 1 => fp (i + 2), fun i Q hQ => ?_, fun i j hij hi hj => ?_⟩
  · cases i with
    | zero =>
      obtain rfl : _ = Q := by simpa using hQ
      refine ⟨k1, k2, fun b hm => ⟨?_, Enc.ow_lt _ k1 b hm⟩⟩
      rcases k3 b hm with h1 | h1 | h1
      · exact (p3 b h1).1
      · exact (q3 b h1).1
      · have := B.size; omega
    | succ i =>
      have hQ' : ps[i]? = some Q := by simpa using hQ
      obtain ⟨h1, h2, h3⟩ := hh (i + 2) Q hQ'
      have hil := (List.getElem?_eq_some_iff.1 hQ').1
      refine ⟨Q.frame (fun b hm => k4.block b (h3 b hm).2 (fun hf => ?_)) h1, h2, fun b hm => ⟨(h3 b hm).1, Nat.lt_of_lt_of_le (h3 b hm).2 k4.size⟩⟩
      exact d 0 (i + 2) (by omega) (by simp) (by simpa using hil) b hf hm
  · have hd0 : ∀ i, i < ps.length → Dj fp' (fp (i + 2)) := by
      intro i hi b hb1 hb2
      rcases k3 b hb1 with h1 | h1 | h1
      · exact d 0 (i + 2) (by omega) (by simp) (by simpa using hi) b h1 hb2
      · exact d 1 (i + 2) (by omega) (by simp) (by simpa using hi) b h1 hb2
      · have := ((hh (i + 2) _ (by rw [List.getElem?_cons_succ, List.getElem?_cons_succ]; exact List.getElem?_eq_getElem hi)).2.2 b hb2).2
        omega
    cases i with
    | zero =>
      cases j with
      | zero => exact absurd rfl hij
      | succ j => exact hd0 j (by simpa using hj)
    | succ i =>
      cases j with
      | zero => exact (hd0 i (by simpa using hi)).symm
      | succ j => exact d (i + 2) (j + 2) (by omega) (by simpa using hi) (by simpa using hj)

/-- append of several elements that lead nowhere. -/
theorem stS_StringS {w0 w : World} {ps : List Ob} {ops : Array Oper} {rest : List Oper} {o : Oper} {a : Act} {Q : Exit → Act → World → Prop} {s x : Operand} {v : Value} {l : List (ByteArray)} {ys : List (ByteArray)} {css : List (List Value)} {fys : List (List Nat)}
    (S : Star w0 w (oE (sliceE strE 9) [v] l :: ps)) (hgd : o.guard = none)
    (ho : o.op = .call { callee := .builtin .append, args := #[s, x], argTypes := #[33, 33] }) (hv : a.eval s = v)
    (hys : OwAll (strE) w ys css fys) (hfy : fys.flatten = []) (hs : SrcS w (strE).size (a.eval x) ys.length css.flatten) (hlen : l.length + ys.length ≤ 1000000000000)
    (h : ∀ sa sn sc w', Star w0 w' (oE (sliceE strE 9) [.slice sa sn sc] (l ++ ys) :: ps) → wpList Tryz.prog ops Q rest (a.put o.dst (.slice sa sn sc)) w') : wpList Tryz.prog ops Q (o :: rest) a w := by
  obtain ⟨B, fp, hh, d⟩ := S
  obtain ⟨p1, p2, p3⟩ := hh 0 _ rfl
  refine appS_StringS hgd s x ho hv p1 hys hs (by rw [hfy, List.append_nil]; exact p2) hlen (fun v' w' fp' k1 k2 k3 k4 => ?_)
  rw [hfy] at k3
  obtain ⟨sa, sn, sc, rfl⟩ := ow_slice k1
  refine h sa sn sc w' ⟨B.trans (k4.below (fun b hb => (p3 b hb).1) B.size), fun i => match i with | 0 => fp' | i + 1 => fp (i + 1), fun i Q hQ => ?_, fun i j hij hi hj => ?_⟩
  · cases i with
    | zero =>
      obtain rfl : _ = Q := by simpa using hQ
      refine ⟨k1, k2, fun b hm => ⟨?_, Enc.ow_lt _ k1 b hm⟩⟩
      rcases k3 b hm with h1 | h1 | h1
      · exact (p3 b h1).1
      · cases h1
      · have := B.size; omega
    | succ i =>
      have hQ' : ps[i]? = some Q := by simpa using hQ
      obtain ⟨h1, h2, h3⟩ := hh (i + 1) Q hQ'
      have hil := (List.getElem?_eq_some_iff.1 hQ').1
      refine ⟨Q.frame (fun b hm => k4.block b (h3 b hm).2 (fun hf => ?_)) h1, h2, fun b hm => ⟨(h3 b hm).1, Nat.lt_of_lt_of_le (h3 b hm).2 k4.size⟩⟩
      exact d 0 (i + 1) (by omega) (by simp) (by simpa using hil) b hf hm
  · have hd0 : ∀ i, i < ps.length → Dj fp' (fp (i + 1)) := by
      intro i hi b hb1 hb2
      rcases k3 b hb1 with h1 | h1 | h1
      · exact d 0 (i + 1) (by omega) (by simp) (by simpa using hi) b h1 hb2
      · cases h1
      · have := ((hh (i + 1) _ (by rw [List.getElem?_cons_succ]; exact List.getElem?_eq_getElem hi)).2.2 b hb2).2
        omega
    cases i with
    | zero =>
      cases j with
      | zero => exact absurd rfl hij
      | succ j => exact hd0 j (by simpa using hj)
    | succ i =>
      cases j with
      | zero => exact (hd0 i (by simpa using hi)).symm
      | succ j => exact d (i + 1) (j + 1) (by omega) (by simpa using hi) (by simpa using hj)

/-- append of one element, itself a part, to a slice of List ByteArray. -/
theorem st1_StringSS {w0 w : World} {ps : List Ob} {ops : Array Oper} {rest : List Oper} {o : Oper} {a : Act} {Q : Exit → Act → World → Prop} {s x : Operand} {v : Value} {l : List (List ByteArray)} {b c : Nat} {y : List ByteArray} {cs : List Value}
    (S : Star w0 w (oE (sliceE strsE 33) [v] l :: oE strsE cs y :: ps)) (hgd : o.guard = none)
    (ho : o.op = .call { callee := .builtin .append, args := #[s, x], argTypes := #[25, 25] }) (hv : a.eval s = v)
    (hx : a.eval x = .slice (some ⟨b, 0, none⟩) 1 c) (hc : ∀ j u, cs[j]? = some u → w.cell? ⟨b, j, none⟩ = some u) (h1 : ∀ u, u ∈ cs → u.oneCell' = true) (hlen : l.length ≤ 1000000000000)
    (h : ∀ sa sn sc w', Star w0 w' (oE (sliceE strsE 33) [.slice sa sn sc] (l ++ [y]) :: ps) → wpList Tryz.prog ops Q rest (a.put o.dst (.slice sa sn sc)) w') : wpList Tryz.prog ops Q (o :: rest) a w := by
  obtain ⟨B, fp, hh, d⟩ := S
  obtain ⟨p1, p2, p3⟩ := hh 0 _ rfl
  obtain ⟨q1, q2, q3⟩ := hh 1 _ rfl
  have d01 := d 1 0 (by omega) (by simp) (by simp)
  refine app1_StringSS hgd s x ho hv p1 p2 hx hc h1 q1 q2 d01 hlen (fun v' w' fp' k1 k2 k3 k4 => ?_)
  obtain ⟨sa, sn, sc, rfl⟩ := ow_slice k1
  refine h sa sn sc w' ⟨B.trans (k4.below (fun b hb => (p3 b hb).1) B.size), fun i => match i with | 0 => fp' | i + 1 => fp (i + 2), fun i Q hQ => ?_, fun i j hij hi hj => ?_⟩
  · cases i with
    | zero =>
      obtain rfl : _ = Q := by simpa using hQ
      refine ⟨k1, k2, fun b hm => ⟨?_, Enc.ow_lt _ k1 b hm⟩⟩
      rcases k3 b hm with h1 | h1 | h1
      · exact (p3 b h1).1
      · exact (q3 b h1).1
      · have := B.size; omega
    | succ i =>
      have hQ' : ps[i]? = some Q := by simpa using hQ
      obtain ⟨h1, h2, h3⟩ := hh (i + 2) Q hQ'
      have hil := (List.getElem?_eq_some_iff.1 hQ').1
      refine ⟨Q.frame (fun b hm => k4.block b (h3 b hm).2 (fun hf => ?_)) h1, h2, fun b hm => ⟨(h3 b hm).1, Nat.lt_of_lt_of_le (h3 b hm).2 k4.size⟩⟩
      exact d 0 (i + 2) (by omega) (by simp) (by simpa using hil) b hf hm
  · have hd0 : ∀ i, i < ps.length → Dj fp' (fp (i + 2)) := by
      intro i hi b hb1 hb2
      rcases k3 b hb1 with h1 | h1 | h1
      · exact d 0 (i + 2) (by omega) (by simp) (by simpa using hi) b h1 hb2
      · exact d 1 (i + 2) (by omega) (by simp) (by simpa using hi) b h1 hb2
      · have := ((hh (i + 2) _ (by rw [List.getElem?_cons_succ, List.getElem?_cons_succ]; exact List.getElem?_eq_getElem hi)).2.2 b hb2).2
        omega
    cases i with
    | zero =>
      cases j with
      | zero => exact absurd rfl hij
      | succ j => exact hd0 j (by simpa using hj)
    | succ i =>
      cases j with
      | zero => exact (hd0 i (by simpa using hi)).symm
      | succ j => exact d (i + 2) (j + 2) (by omega) (by simpa using hi) (by simpa using hj)

/-- append of one element, itself a part, to a slice of Move. -/
theorem st1_MoveS {w0 w : World} {ps : List Ob} {ops : Array Oper} {rest : List Oper} {o : Oper} {a : Act} {Q : Exit → Act → World → Prop} {s x : Operand} {v : Value} {l : List (Move)} {b c : Nat} {y : Move} {cs : List Value}
    (S : Star w0 w (oE (sliceE moveE 54) [v] l :: oE moveE cs y :: ps)) (hgd : o.guard = none)
    (ho : o.op = .call { callee := .builtin .append, args := #[s, x], argTypes := #[52, 52] }) (hv : a.eval s = v)
    (hx : a.eval x = .slice (some ⟨b, 0, none⟩) 1 c) (hc : ∀ j u, cs[j]? = some u → w.cell? ⟨b, j, none⟩ = some u) (h1 : ∀ u, u ∈ cs → u.oneCell' = true) (hlen : l.length ≤ 1000000000000)
    (h : ∀ sa sn sc w', Star w0 w' (oE (sliceE moveE 54) [.slice sa sn sc] (l ++ [y]) :: ps) → wpList Tryz.prog ops Q rest (a.put o.dst (.slice sa sn sc)) w') : wpList Tryz.prog ops Q (o :: rest) a w := by
  obtain ⟨B, fp, hh, d⟩ := S
  obtain ⟨p1, p2, p3⟩ := hh 0 _ rfl
  obtain ⟨q1, q2, q3⟩ := hh 1 _ rfl
  have d01 := d 1 0 (by omega) (by simp) (by simp)
  refine app1_MoveS hgd s x ho hv p1 p2 hx hc h1 q1 q2 d01 hlen (fun v' w' fp' k1 k2 k3 k4 => ?_)
  obtain ⟨sa, sn, sc, rfl⟩ := ow_slice k1
  refine h sa sn sc w' ⟨B.trans (k4.below (fun b hb => (p3 b hb).1) B.size), fun i => match i with | 0 => fp' | i + 1 => fp (i + 2), fun i Q hQ => ?_, fun i j hij hi hj => ?_⟩
  · cases i with
    | zero =>
      obtain rfl : _ = Q := by simpa using hQ
      refine ⟨k1, k2, fun b hm => ⟨?_, Enc.ow_lt _ k1 b hm⟩⟩
      rcases k3 b hm with h1 | h1 | h1
      · exact (p3 b h1).1
      · exact (q3 b h1).1
      · have := B.size; omega
    | succ i =>
      have hQ' : ps[i]? = some Q := by simpa using hQ
      obtain ⟨h1, h2, h3⟩ := hh (i + 2) Q hQ'
      have hil := (List.getElem?_eq_some_iff.1 hQ').1
      refine ⟨Q.frame (fun b hm => k4.block b (h3 b hm).2 (fun hf => ?_)) h1, h2, fun b hm => ⟨(h3 b hm).1, Nat.lt_of_lt_of_le (h3 b hm).2 k4.size⟩⟩
      exact d 0 (i + 2) (by omega) (by simp) (by simpa using hil) b hf hm
  · have hd0 : ∀ i, i < ps.length → Dj fp' (fp (i + 2)) := by
      intro i hi b hb1 hb2
      rcases k3 b hb1 with h1 | h1 | h1
      · exact d 0 (i + 2) (by omega) (by simp) (by simpa using hi) b h1 hb2
      · exact d 1 (i + 2) (by omega) (by simp) (by simpa using hi) b h1 hb2
      · have := ((hh (i + 2) _ (by rw [List.getElem?_cons_succ, List.getElem?_cons_succ]; exact List.getElem?_eq_getElem hi)).2.2 b hb2).2
        omega
    cases i with
    | zero =>
      cases j with
      | zero => exact absurd rfl hij
      | succ j => exact hd0 j (by simpa using hj)
    | succ i =>
      cases j with
      | zero => exact (hd0 i (by simpa using hi)).symm
      | succ j => exact d (i + 2) (j + 2) (by omega) (by simpa using hi) (by simpa using hj)

/-- append of several elements that lead nowhere. -/
theorem stS_MoveS {w0 w : World} {ps : List Ob} {ops : Array Oper} {rest : List Oper} {o : Oper} {a : Act} {Q : Exit → Act → World → Prop} {s x : Operand} {v : Value} {l : List (Move)} {ys : List (Move)} {css : List (List Value)} {fys : List (List Nat)}
    (S : Star w0 w (oE (sliceE moveE 54) [v] l :: ps)) (hgd : o.guard = none)
    (ho : o.op = .call { callee := .builtin .append, args := #[s, x], argTypes := #[52, 52] }) (hv : a.eval s = v)
    (hys : OwAll (moveE) w ys css fys) (hfy : fys.flatten = []) (hs : SrcS w (moveE).size (a.eval x) ys.length css.flatten) (hlen : l.length + ys.length ≤ 1000000000000)
    (h : ∀ sa sn sc w', Star w0 w' (oE (sliceE moveE 54) [.slice sa sn sc] (l ++ ys) :: ps) → wpList Tryz.prog ops Q rest (a.put o.dst (.slice sa sn sc)) w') : wpList Tryz.prog ops Q (o :: rest) a w := by
  obtain ⟨B, fp, hh, d⟩ := S
  obtain ⟨p1, p2, p3⟩ := hh 0 _ rfl
  refine appS_MoveS hgd s x ho hv p1 hys hs (by rw [hfy, List.append_nil]; exact p2) hlen (fun v' w' fp' k1 k2 k3 k4 => ?_)
  rw [hfy] at k3
  obtain ⟨sa, sn, sc, rfl⟩ := ow_slice k1
  refine h sa sn sc w' ⟨B.trans (k4.below (fun b hb => (p3 b hb).1) B.size), fun i => match i with | 0 => fp' | i + 1 => fp (i + 1), fun i Q hQ => ?_, fun i j hij hi hj => ?_⟩
  · cases i with
    | zero =>
      obtain rfl : _ = Q := by simpa using hQ
      refine ⟨k1, k2, fun b hm => ⟨?_, Enc.ow_lt _ k1 b hm⟩⟩
      rcases k3 b hm with h1 | h1 | h1
      · exact (p3 b h1).1
      · cases h1
      · have := B.size; omega
    | succ i =>
      have hQ' : ps[i]? = some Q := by simpa using hQ
      obtain ⟨h1, h2, h3⟩ := hh (i + 1) Q hQ'
      have hil := (List.getElem?_eq_some_iff.1 hQ').1
      refine ⟨Q.frame (fun b hm => k4.block b (h3 b hm).2 (fun hf => ?_)) h1, h2, fun b hm => ⟨(h3 b hm).1, Nat.lt_of_lt_of_le (h3 b hm).2 k4.size⟩⟩
      exact d 0 (i + 1) (by omega) (by simp) (by simpa using hil) b hf hm
  · have hd0 : ∀ i, i < ps.length → Dj fp' (fp (i + 1)) := by
      intro i hi b hb1 hb2
      rcases k3 b hb1 with h1 | h1 | h1
      · exact d 0 (i + 1) (by omega) (by simp) (by simpa using hi) b h1 hb2
      · cases h1
      · have := ((hh (i + 1) _ (by rw [List.getElem?_cons_succ]; exact List.getElem?_eq_getElem hi)).2.2 b hb2).2
        omega
    cases i with
    | zero =>
      cases j with
      | zero => exact absurd rfl hij
      | succ j => exact hd0 j (by simpa using hj)
    | succ i =>
      cases j with
      | zero => exact (hd0 i (by simpa using hi)).symm
      | succ j => exact d (i + 1) (j + 1) (by omega) (by simpa using hi) (by simpa using hj)

/-- append of one element, itself a part, to a slice of List Move. -/
theorem st1_MoveSS {w0 w : World} {ps : List Ob} {ops : Array Oper} {rest : List Oper} {o : Oper} {a : Act} {Q : Exit → Act → World → Prop} {s x : Operand} {v : Value} {l : List (List Move)} {b c : Nat} {y : List Move} {cs : List Value}
    (S : Star w0 w (oE (sliceE movesE 52) [v] l :: oE movesE cs y :: ps)) (hgd : o.guard = none)
    (ho : o.op = .call { callee := .builtin .append, args := #[s, x], argTypes := #[22, 22] }) (hv : a.eval s = v)
    (hx : a.eval x = .slice (some ⟨b, 0, none⟩) 1 c) (hc : ∀ j u, cs[j]? = some u → w.cell? ⟨b, j, none⟩ = some u) (h1 : ∀ u, u ∈ cs → u.oneCell' = true) (hlen : l.length ≤ 1000000000000)
    (h : ∀ sa sn sc w', Star w0 w' (oE (sliceE movesE 52) [.slice sa sn sc] (l ++ [y]) :: ps) → wpList Tryz.prog ops Q rest (a.put o.dst (.slice sa sn sc)) w') : wpList Tryz.prog ops Q (o :: rest) a w := by
  obtain ⟨B, fp, hh, d⟩ := S
  obtain ⟨p1, p2, p3⟩ := hh 0 _ rfl
  obtain ⟨q1, q2, q3⟩ := hh 1 _ rfl
  have d01 := d 1 0 (by omega) (by simp) (by simp)
  refine app1_MoveSS hgd s x ho hv p1 p2 hx hc h1 q1 q2 d01 hlen (fun v' w' fp' k1 k2 k3 k4 => ?_)
  obtain ⟨sa, sn, sc, rfl⟩ := ow_slice k1
  refine h sa sn sc w' ⟨B.trans (k4.below (fun b hb => (p3 b hb).1) B.size), fun i => match i with | 0 => fp' | i + 1 => fp (i + 2), fun i Q hQ => ?_, fun i j hij hi hj => ?_⟩
  · cases i with
    | zero =>
      obtain rfl : _ = Q := by simpa using hQ
      refine ⟨k1, k2, fun b hm => ⟨?_, Enc.ow_lt _ k1 b hm⟩⟩
      rcases k3 b hm with h1 | h1 | h1
      · exact (p3 b h1).1
      · exact (q3 b h1).1
      · have := B.size; omega
    | succ i =>
      have hQ' : ps[i]? = some Q := by simpa using hQ
      obtain ⟨h1, h2, h3⟩ := hh (i + 2) Q hQ'
      have hil := (List.getElem?_eq_some_iff.1 hQ').1
      refine ⟨Q.frame (fun b hm => k4.block b (h3 b hm).2 (fun hf => ?_)) h1, h2, fun b hm => ⟨(h3 b hm).1, Nat.lt_of_lt_of_le (h3 b hm).2 k4.size⟩⟩
      exact d 0 (i + 2) (by omega) (by simp) (by simpa using hil) b hf hm
  · have hd0 : ∀ i, i < ps.length → Dj fp' (fp (i + 2)) := by
      intro i hi b hb1 hb2
      rcases k3 b hb1 with h1 | h1 | h1
      · exact d 0 (i + 2) (by omega) (by simp) (by simpa using hi) b h1 hb2
      · exact d 1 (i + 2) (by omega) (by simp) (by simpa using hi) b h1 hb2
      · have := ((hh (i + 2) _ (by rw [List.getElem?_cons_succ, List.getElem?_cons_succ]; exact List.getElem?_eq_getElem hi)).2.2 b hb2).2
        omega
    cases i with
    | zero =>
      cases j with
      | zero => exact absurd rfl hij
      | succ j => exact hd0 j (by simpa using hj)
    | succ i =>
      cases j with
      | zero => exact (hd0 i (by simpa using hi)).symm
      | succ j => exact d (i + 2) (j + 2) (by omega) (by simpa using hi) (by simpa using hj)

end Go.Proofs.YtodoghidckelcaaGreatDoor
